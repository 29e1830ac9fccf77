/- Sk, part ZM: the stepper's steps in drawn regions. -/
import Derived.Test.YtlheciphihmomaaGreatDoorSkZL
set_option linter.all false
namespace Go.Sk
open Go

section
variable {X : Tb} {P : Program} {M : Mt} {F : FuncId} {C : Code} {A : Ari} {S : FuncId → List AV → Option (AV × List Bool)}

theorem TodoR.drawn {E : Env} {fr : List AV} {V : List AO} {todo : List It} {tmps : Array Value} {real : List Item} {p : List Nat} {l : List Sx} {k : List It} {ops : Array Oper} {id : Nat}
    (ht : TodoR X A M C E fr V todo tmps real) (htd : todo = .ops p l :: k) (hc : sub p C = some (.region id ops true)) :
    ∃ L done D k', real = .inRegion ops L :: k' ∧ ItsR C E k k' ∧ DrR X A M E fr V (deog l) ops tmps L done D ∧
      (∀ i rest, l = .og i :: rest → ∃ o c, ops[i]? = some o ∧ wantedOf A fr ops.toList o = some (some c) ∧ c = true) ∧
      (∀ i an pn rest, l = .ng i an pn :: rest → ∃ L' o, L = i :: L' ∧ ops[i]? = some o ∧ Region.wanted o (yielded ops tmps) = true) := by
  cases ht with
  | og _ ht _ hs => rw [htd] at ht; cases ht; rw [hc] at hs; cases hs
  | rend _ ht => rw [htd] at ht; cases ht
  | dr ht hr hs hk hd hog hng =>
    rw [htd] at ht; cases ht
    rw [hc] at hs; cases hs
    exact ⟨_, _, _, _, hr, hk, hd, hog, hng⟩
  | plain hf ht =>
    rw [htd] at ht
    obtain ⟨y, k', he, h1, h2⟩ := ht
    cases h1 with
    | ops hc' hl => rw [hc] at hc'; cases hc'

theorem good_deog {ops : List Oper} {l : List Sx} {done : List Nat} (h : goodGo X M ops l done = true) : deog l = l := by
  cases l with
  | nil => rfl
  | cons x l => cases x <;> first | rfl | (simp [goodGo] at h)

theorem TodoR.mkDr {E : Env} {fr : List AV} {V : List AO} {tmps : Array Value} {real : List Item} {p : List Nat} {l : List Sx} {k : List It} {ops : Array Oper} {id : Nat} {L done D : List Nat} {k' : List Item}
    (hr : real = .inRegion ops L :: k') (hs : sub p C = some (.region id ops true)) (hk : ItsR C E k k') (hd : DrR X A M E fr V l ops tmps L done D) : TodoR X A M C E fr V (.ops p l :: k) tmps real := by
  have hg := good_deog hd.good
  refine .dr rfl hr hs hk (by rw [hg]; exact hd) ?_ ?_
  · intro i rest h; subst h; have := hd.good; simp [goodGo] at this
  · intro i an pn rest h; subst h; have := hd.good; simp [goodGo] at this

theorem put_len {fr : List AV} {d : Option Nat} {v : AV} : (put fr d v).length = fr.length := by cases d <;> simp [put, lset_eq]

theorem put_out {fr : List AV} {d : Option Nat} {v : AV} {t : Nat} (h : d ≠ some t) : lget (put fr d v) t = lget fr t := by
  cases d with
  | none => rfl
  | some d =>
    have hne : d ≠ t := fun e => h (by rw [e])
    simp only [put, lset_eq, lget_eq, List.getD_eq_getElem?_getD, List.getElem?_set_ne hne]

theorem put_in {fr : List AV} {v : AV} {t : Nat} (h : t < fr.length) : lget (put fr (some t) v) t = v := by
  simp only [put, lset_eq]; exact lget_of (by simp [h])

/-- The stepper tells a calm operation. -/
theorem tell_ok {s : St} {p : List Nat} {i : Nat} {x0 : Sx} {rest : List Sx} {k : List It} {o : Oper} {id : Nat} {ops : Array Oper} {v : AV} (hmd : s.md = .run) (htd : s.todo = .ops p (x0 :: rest) :: k) (hx0 : deog (x0 :: rest) = .o i :: rest)
    (hc : sub p C = some (.region id ops true)) (ho : ops[i]? = some o)
    (hp : ∀ E tmps L done D, DrR X A M E s.fr s.V (.o i :: rest) ops tmps L done D → (∀ i rest', x0 = .og i → rest' = rest → ∃ o c, ops[i]? = some o ∧ wantedOf A s.fr ops.toList o = some (some c) ∧ c = true) → PendOK X A M (put s.fr o.dst v) s.V ops.toList o False) :
    AW X P A M F C s (· = { s with todo := .ops p rest :: k, fr := put s.fr o.dst v }) := by
  intro E fr cs0 cs w hi hs
  have ht := hs.todo
  simp only [hmd] at ht
  obtain ⟨L, done, D, k', hr, hk, hd, hog, hng⟩ := ht.drawn htd hc
  rw [hx0] at hd
  have hpp := hp E fr.tmps L done D hd (fun i rest' h1 h2 => hog i rest (by rw [h1]))
  have hd' := hd.tell (.inl rfl) hd.good ho hpp
  refine ⟨_, E, fr, cs, w, rfl, .refl P _, hi, ⟨hs.fn, hs.md, ?_, hs.df, hs.ro, hs.cm⟩, .refl E w, rfl, rfl⟩
  simp only [hmd]
  exact TodoR.mkDr hr hc hk hd'

/-- The value of a calm operation, told, is what it would be again. -/
theorem pend_of {s : St} {i : Nat} {rest : List Sx} {o : Oper} {ops : Array Oper} {E : Env} {tmps : Array Value} {L done D : List Nat} {v x : AV} {V' : List AO} {ob : List Bool} {r : Option Bool}
    (hd : DrR X A M E s.fr s.V (.o i :: rest) ops tmps L done D) (ho : ops[i]? = some o) (hw : wantedOf A s.fr ops.toList o = some r)
    (hsh : (r = none ∧ isGd v = false) ∨ (∃ c, r = some c ∧ ((∃ u, v = .gd c u) ∨ (c = true ∧ isGd v = false))))
    (hv : r.getD true = true → (exec A X M s.fr s.V o = .v x V' ob ∨ exec A X M s.fr s.V o = .el x V' ob) ∧ Obl ob ∧ isGd x = false ∧ strip v = x) :
    PendOK X A M (put s.fr o.dst v) s.V ops.toList o False := by
  have hg := hd.good
  simp only [goodGo, Bool.and_eq_true, Bool.not_eq_true'] at hg
  obtain ⟨⟨h1, h2⟩, h3⟩ := hg
  rw [nth?_eq] at h2
  simp only [Array.getElem?_toList, ho, Bool.and_eq_true] at h2
  obtain ⟨hc, _⟩ := h2
  have hl : ∀ t, t ∈ looks ops.toList o → lget s.fr t = lget (put s.fr o.dst v) t := by
    intro t ht
    refine (put_out fun he => ?_).symm
    have := (stat_dst (hd.statOf ho) hc he ho).1 ht
    exact Nat.lt_irrefl _ (stat_dep (hd.statOf ho) this)
  refine ⟨r, by rw [← wantedOf_congr hl]; exact hw, fun t ht hlt => ?_, .inr fun hr => ?_⟩
  · rw [put_len] at hlt; rw [ht, put_in hlt]; exact hsh
  · obtain ⟨g1, g2, g3, g4⟩ := hv hr
    refine ⟨x, V', ob, ?_, g2, g3, fun t ht hlt => ?_⟩
    · rw [← exec_congr (fun t ht => hl t (looks_op ht))]; exact g1
    · rw [put_len] at hlt; rw [ht, put_in hlt]; exact g4

/-- The machine comes to an operation that acts. -/
theorem comes {s : St} {p : List Nat} {i : Nat} {an pn : List Nat} {rest : List Sx} {k : List It} {o : Oper} {id : Nat} {ops : Array Oper} (hX : TbOK X P) (hmd : s.md = .run) (htd : s.todo = .ops p (.n i an pn :: rest) :: k)
    (hc : sub p C = some (.region id ops true)) (ho : ops[i]? = some o) {E : Env} {fr : Frame} {cs0 cs : List Frame} {w : World} (hi : Inv X P E s.V w) (hs : StR X P A M F C E s fr cs0 cs) :
    ∃ E1 fr1 w1 L' done D k', Steps P (lone fr cs w) (lone fr1 cs w1) ∧ Inv X P E1 s.V w1 ∧ StR X P A M F C E1 s fr1 cs0 cs ∧ Ext E w E1 w1 ∧ fr1.kind = fr.kind ∧ fr1.roundOf = fr.roundOf ∧
      fr1.mode = .run ∧ fr1.todo = .inRegion ops (i :: L') :: k' ∧ ItsR C E1 k k' ∧ DrR X A M E1 s.fr s.V (.n i an pn :: rest) ops fr1.tmps (i :: L') done D := by
  have hm := hs.md
  rw [hmd] at hm
  simp only [MdR] at hm
  have ht := hs.todo
  simp only [hmd] at ht
  obtain ⟨L, done, D, k', hr, hk, hd, hog, hng⟩ := ht.drawn htd hc
  simp only [deog] at hd
  obtain ⟨E1, w1, a, L', D', h1, h2, h3, h4, h5, h6⟩ := hd.flush hX rfl L hi hm hr (cs := cs)
  obtain ⟨L2, rfl⟩ := h5.only h5.good h6 (Array.getElem?_eq_some_iff.1 ho).1
  refine ⟨E1, fr.atR a (.inRegion ops (i :: L2) :: k'), w1, L2, done, D', k', h1, h2, ⟨hs.fn, ?_, ?_, ?_, ?_, ?_⟩, h3, rfl, rfl, rfl, rfl, hk.mono h3.le, h5⟩
  · simp only [hmd, MdR]; rfl
  · simp only [hmd]; rw [htd]; exact TodoR.mkDr rfl hc (hk.mono h3.le) h5
  · simp only [Frame.atR, h4]; exact hs.df.mono h3.le
  · have := hs.ro
    revert this
    cases hro : s.ro with
    | none => exact fun h => h
    | some r => rintro ⟨l, h1, h2⟩; obtain ⟨g, hg, hle⟩ := h3.le.ρ _ _ h2; simp only [Gh.le] at hle; subst hle; exact ⟨l, h1, hg⟩
  · have := hs.cm
    revert this
    cases hcm : s.cm with
    | none => exact fun h => h
    | some m => rintro ⟨hk, c, k, m', h1, h2, h5⟩; exact ⟨hk, c, k, m', h1, h2, h5.mono h3.le⟩

theorem AtOp.dr {s : St} {p : List Nat} {i : Nat} {an pn : List Nat} {rest : List Sx} {k : List It} {o : Oper} {id : Nat} {ops : Array Oper} {E1 : Env} {fr1 : Frame} {L' done D : List Nat} {k' : List Item} (hmd : s.md = .run)
    (hc : sub p C = some (.region id ops true)) (ho : ops[i]? = some o) (hm : fr1.mode = .run) (ht : fr1.todo = .inRegion ops (i :: L') :: k') (hk : ItsR C E1 k k') (hd : DrR X A M E1 s.fr s.V (.n i an pn :: rest) ops fr1.tmps (i :: L') done D)
    (hw : Region.wanted o (yielded ops fr1.tmps) = true) : AtOp X P A M C E1 s fr1 p i pn rest k o := by
  refine ⟨hmd, hm, ⟨_, hd.frU, exec_congr fun t h => hd.looksOK ho (fun d h => hd.deps0 ho h) (looks_op h)⟩, hd.panic hd.good ho, ops, L', k', ht, ho, hw, ?_⟩
  intro E' V' x y ds hE hV hv
  exact TodoR.mkDr rfl hc (hk.mono hE) (hd.act hd.good ho rfl hE hV hv)

theorem Ready.dr {s : St} {p : List Nat} {i : Nat} {an pn : List Nat} {rest : List Sx} {k : List It} {o : Oper} {id : Nat} {ops : Array Oper} (hX : TbOK X P) (hmd : s.md = .run) (htd : s.todo = .ops p (.n i an pn :: rest) :: k)
    (hc : sub p C = some (.region id ops true)) (ho : ops[i]? = some o) (hw : wantedOf A s.fr ops.toList o = some none) : Ready X P A M F C s p i pn rest k o := by
  intro E fr cs0 cs w hi hs
  obtain ⟨E1, fr1, w1, L', done, D, k', h1, h2, h3, h4, h5, h6, h7, h8, h9, h10⟩ := comes hX hmd htd hc ho hi hs
  refine ⟨E1, fr1, w1, h1, h2, h3, h4, h5, h6, AtOp.dr hmd hc ho h7 h8 h9 h10 ?_⟩
  have hwU : wantedOf A (hide s.fr (Pdst ops done D)) ops.toList o = some none := by rw [wantedOf_congr fun t h => h10.looksOK ho (fun d h => h10.deps0 ho h) h]; exact hw
  simpa using wanted_ok hwU h10.frU

theorem Ready.drG {s : St} {p : List Nat} {i : Nat} {an pn : List Nat} {rest : List Sx} {k : List It} {o : Oper} {id : Nat} {ops : Array Oper} (hmd : s.md = .run) (htd : s.todo = .ops p (.ng i an pn :: rest) :: k)
    (hc : sub p C = some (.region id ops true)) (ho : ops[i]? = some o) : Ready X P A M F C s p i pn rest k o := by
  intro E fr cs0 cs w hi hs
  have hm := hs.md
  rw [hmd] at hm
  simp only [MdR] at hm
  have ht := hs.todo
  simp only [hmd] at ht
  obtain ⟨L, done, D, k', hr, hk, hd, hog, hng⟩ := ht.drawn htd hc
  simp only [deog] at hd
  obtain ⟨L', o', rfl, ho', hw⟩ := hng i an pn rest rfl
  rw [ho] at ho'; cases ho'
  exact ⟨E, fr, w, .refl P _, hi, hs, .refl E w, rfl, rfl, AtOp.dr hmd hc ho hm hr hk hd hw⟩

/-- A guarded operation that acts: two ways. -/
theorem AW.guardD {s : St} {p : List Nat} {i : Nat} {an pn : List Nat} {rest : List Sx} {k : List It} {o : Oper} {id : Nat} {ops : Array Oper} {c : Bool} {Φ : St → Prop} (hX : TbOK X P) (hmd : s.md = .run) (htd : s.todo = .ops p (.n i an pn :: rest) :: k)
    (hc : sub p C = some (.region id ops true)) (ho : ops[i]? = some o) (hw : wantedOf A s.fr ops.toList o = some (some c))
    (h1 : c = true → AW X P A M F C { s with todo := .ops p (.ng i an pn :: rest) :: k } Φ) (h2 : c = false → AW X P A M F C { s with todo := .ops p rest :: k, fr := put s.fr o.dst (.gd false (.d (.bool false))) } Φ) : AW X P A M F C s Φ := by
  intro E fr cs0 cs w hi hs
  obtain ⟨E1, fr1, w1, L', done, D, k', g1, g2, g3, g4, g5, g6, g7, g8, g9, g10⟩ := comes hX hmd htd hc ho hi hs
  have hwU : wantedOf A (hide s.fr (Pdst ops done D)) ops.toList o = some (some c) := by rw [wantedOf_congr fun t h => g10.looksOK ho (fun d h => g10.deps0 ho h) h]; exact hw
  have hwt := wanted_ok hwU g10.frU
  simp only [Option.getD_some] at hwt
  cases c with
  | true =>
    obtain ⟨s2, E2, fr2, cs2, w2, f1, f2, f3, f4, f5, f6, f7⟩ := h1 rfl E1 fr1 cs0 cs w1 g2 ⟨g3.fn, g3.md, by
      simp only [hmd]
      exact .dr rfl g8 hc g9 (by simp only [deog]; exact g10) (fun i rest h => by cases h) (fun i an pn rest h => by cases h; exact ⟨L', o, rfl, ho, hwt⟩), g3.df, g3.ro, g3.cm⟩
    exact ⟨s2, E2, fr2, cs2, w2, f1, g1.trans f2, f3, f4, g4.trans f5, f6.trans g5, f7.trans g6⟩
  | false =>
    obtain ⟨fr', h5, h6, h7, h8⟩ := skip_ok (w := w1) (k := .ops p rest :: k) (x := .gd false (.d (.bool false))) g3 hmd g8 ho hwt fun ds =>
      TodoR.mkDr rfl hc g9 (g10.act g10.good ho rfl (.refl E1) (fun _ => rfl) ⟨fun h => (by cases h), fun _ => rfl⟩)
    obtain ⟨s2, E2, fr2, cs2, w2, f1, f2, f3, f4, f5, f6, f7⟩ := h2 rfl E1 fr' cs0 cs w1 g2 h6
    exact ⟨s2, E2, fr2, cs2, w2, f1, g1.trans (h5.trans f2), f3, f4, g4.trans f5, f6.trans (h7.trans g5), f7.trans (h8.trans g6)⟩

/-- A region that was drawn is over. -/
theorem AW.endD {s : St} {p : List Nat} {k : List It} {id : Nat} {ops : Array Oper} (hX : TbOK X P) (hmd : s.md = .run) (htd : s.todo = .ops p [] :: k) (hc : sub p C = some (.region id ops true)) : AW X P A M F C s (· = { s with todo := k }) := by
  intro E fr cs0 cs w hi hs
  have hm := hs.md
  rw [hmd] at hm
  simp only [MdR] at hm
  have ht := hs.todo
  simp only [hmd] at ht
  obtain ⟨L, done, D, k', hr, hk, hd, hog, hng⟩ := ht.drawn htd hc
  simp only [deog] at hd
  obtain ⟨E1, w1, a, L', D', h1, h2, h3, h4, h5, h6⟩ := hd.flush hX rfl L hi hm hr (cs := cs)
  obtain ⟨rfl, hf⟩ := h5.all h6
  refine ⟨_, E1, fr.atR a k', cs, w1, rfl, h1.trans (.one stepR_region_end), h2, ⟨hs.fn, ?_, ?_, ?_, ?_, ?_⟩, h3, rfl, rfl⟩
  · simp only [hmd, MdR]; rfl
  · simp only [hmd]; exact .plain hf (hk.mono h3.le)
  · simp only [Frame.atR, h4]; exact hs.df.mono h3.le
  · have := hs.ro
    revert this
    cases hro : s.ro with
    | none => exact fun h => h
    | some r => rintro ⟨l, h1, h2⟩; obtain ⟨g, hg, hle⟩ := h3.le.ρ _ _ h2; simp only [Gh.le] at hle; subst hle; exact ⟨l, h1, hg⟩
  · have := hs.cm
    revert this
    cases hcm : s.cm with
    | none => exact fun h => h
    | some m => rintro ⟨hk, c, k, m', h1, h2, h5⟩; exact ⟨hk, c, k, m', h1, h2, h5.mono h3.le⟩

/-- A region's order is drawn. -/
theorem AW.draw {s : St} {p : List Nat} {k : List It} {id : Nat} {ops : Array Oper} (hP : P.follows .mixedOrders = true) (hmd : s.md = .run) (htd : s.todo = .c p :: k) (hc : sub p C = some (.region id ops true)) (hg : goodR X M ops.toList (schedOf M id) = true) :
    AW X P A M F C s (· = { s with todo := .ops p (schedOf M id) :: k }) := by
  intro E fr cs0 cs w hi hs
  have hm := hs.md
  rw [hmd] at hm
  simp only [MdR] at hm
  have ht := hs.todo
  simp only [hmd] at ht
  obtain ⟨hf, ht⟩ := (noOg.of htd (by intro _ _ h; cases h) (by intro _ h; cases h)).todo ht
  rw [htd] at ht
  obtain ⟨y, k', he, h1, h2⟩ := ht
  cases h1 with
  | c hc' =>
    rw [hc] at hc'; cases hc'
    have hst := stepR_region_draw (P := P) (b := fr) (a := ⟨fr.tmps, fr.defers⟩) (k := k') (cs := cs) (w := w) (ops := ops) (id := id)
    rw [← he, ← frame_run hm] at hst
    refine ⟨_, E, _, cs, _, rfl, .one hst, hi.of_heap rfl, ⟨hs.fn, ?_, ?_, hs.df, hs.ro, hs.cm⟩, ⟨.refl E, Kept.of_heap rfl rfl rfl rfl, fun _ _ h => .inl h, fun _ _ _ h => .inl h⟩, rfl, rfl⟩
    · simp only [hmd, MdR]; rfl
    · simp only [hmd]
      exact TodoR.mkDr rfl hc h2 (DrR.enter hP hg hf)

end
end Go.Sk
