/- Sk, part Z: operations in a region: guards, panics, deferred calls. -/
import Derived.Test.YtlheciphihmomaaGreatDoorSkY
set_option linter.all false
namespace Go.Sk
open Go

section
variable {X : Tb} {P : Program} {M : Mt} {F : FuncId} {C : Code} {A : Ari}

theorem nth?_arr {α : Type} {ops : Array α} {i : Nat} {o : α} (h : nth? ops.toList i = some o) : ops[i]? = some o := by
  rw [nth?_eq] at h; simpa using h

theorem isGd_false {v : AV} (h : isGd v = false) : ∀ c u, v ≠ .gd c u := by
  rintro c u rfl; cases h

theorem yielded_ok {E : Env} {fr : List AV} {tmps : Array Value} {ops : Array Oper} {j t : Nat} {g : Oper} (hf : FrX X E fr tmps []) (hg : ops[j]? = some g) (hd : g.dst = some t) (hlt : t < fr.length) :
    ∃ y, yielded ops tmps j = (match y with | .bool b => some b | _ => none) ∧ RV X E (lget fr t) y := by
  refine ⟨tmps.getD t undef, ?_, hf.2 t hlt rfl⟩
  have hlt' : t < tmps.size := by rw [hf.1]; exact hlt
  have e : tmps.getD t undef = tmps[t] := by simp [Array.getD, hlt']
  simp only [yielded, hg, Option.bind_some, hd, Array.getElem?_eq_getElem hlt', e]
  cases tmps[t] <;> rfl

theorem wanted_ok {E : Env} {fr : List AV} {tmps : Array Value} {ops : Array Oper} {o : Oper} {r : Option Bool} (h : wantedOf A fr ops.toList o = some r) (hf : FrX X E fr tmps []) :
    Region.wanted o (yielded ops tmps) = r.getD true := by
  unfold wantedOf at h
  split at h
  · rename_i hg
    cases h; simp [Region.wanted, hg]
  · rename_i j w hg
    split at h
    · rename_i g hng
      split at h
      · rename_i t hd
        have hlt : t < fr.length := by
          by_cases hlt : t < fr.length
          · exact hlt
          · have : lget fr t = .undef := by rw [lget_eq]; simp [List.getD, List.getElem?_eq_none (Nat.not_lt.1 hlt)]; rfl
            rw [this] at h; cases h
        obtain ⟨y, hy, hr⟩ := yielded_ok hf (nth?_arr hng) hd hlt
        split at h
        · rename_i b hb
          rw [hb] at hr
          have := rv_bool.1 hr
          subst this
          simp only at hy
          cases h
          simp only [Region.wanted, hg, hy, Option.getD_some]
          cases w <;> cases b <;> simp [A.not_eq]
        · rename_i c b hb
          rw [hb] at hr
          simp only [RV] at hr
          cases h
          simp only [Region.wanted, hg, Option.getD_some, A.and_eq]
          cases c with
          | true =>
            have := rv_bool.1 (hr.1 rfl)
            subst this
            simp only at hy
            rw [hy]
            cases w <;> cases b <;> simp [A.not_eq]
          | false =>
            have := hr.2 rfl
            subst this
            simp only [undef] at hy
            rw [hy]; simp
        · cases h
      · cases h
    · cases h

/-- A guard that is not as wanted: the operation is passed by. -/
theorem skip_ok {s : St} {E : Env} {fr : Frame} {cs0 cs : List Frame} {w : World} {i : Nat} {idx : List Nat} {k : List It} {k' : List Item} {o : Oper} {ops : Array Oper} {x : AV}
    (hs : StR X P A M F C E s fr cs0 cs) (hmd : s.md = .run) (ht : fr.todo = .inRegion ops (i :: idx) :: k')
    (ho : ops[i]? = some o) (hw : Region.wanted o (yielded ops fr.tmps) = false) (hcont : ∀ ds, TodoR X A M C E (put s.fr o.dst x) s.V k ((⟨fr.tmps, ds⟩ : Act).put o.dst undef).tmps (.inRegion ops idx :: k')) :
    ∃ fr', Steps P (lone fr cs w) (lone fr' cs w) ∧ StR X P A M F C E { s with todo := k, fr := put s.fr o.dst x } fr' cs0 cs ∧ fr'.kind = fr.kind ∧ fr'.roundOf = fr.roundOf := by
  have hm := hs.md
  rw [hmd] at hm
  simp only [MdR] at hm
  have hst := stepR_op_skip (P := P) (b := fr) (a := ⟨fr.tmps, fr.defers⟩) (k := k') (cs := cs) (w := w) (ops := ops) (i := i) (rest := idx) (by simp [ho, hw])
  rw [← ht, ← frame_run hm, ho] at hst
  refine ⟨_, .one hst, ⟨hs.fn, ?_, ?_, ?_, hs.ro, hs.cm⟩, rfl, rfl⟩
  · simp only [hmd, MdR]; rfl
  · simp only [hmd]; exact hcont _
  · simp only [Frame.atR, put_defers]; exact hs.df

theorem impAll_ok {c : Bool} : ∀ {l : List Bool}, Obl (impAll A c l) → c = true → Obl l
  | [], _, _ => trivial
  | p :: l, h, hc => by
    simp only [impAll, Obl, A.imp_eq] at h
    exact ⟨h.1 hc, impAll_ok h.2 hc⟩

/-- The text's order: what stands next. -/
theorem TodoR.text {E : Env} {s : St} {tmps : Array Value} {real : List Item} {p : List Nat} {i : Nat} {rest : List Sx} {k : List It} {ops : Array Oper} {id : Nat}
    (ht : TodoR X A M C E s.fr s.V s.todo tmps real) (htd : s.todo = .ops p (.o i :: rest) :: k) (hc : sub p C = some (.region id ops false)) :
    FrX X E s.fr tmps [] ∧ ∃ idx k', real = .inRegion ops (i :: idx) :: k' ∧ rest = idx.map .o ∧ ItsR C E k k' := by
  cases ht with
  | og _ ht => rw [htd] at ht; cases ht
  | dr ht _ hs => rw [htd] at ht; cases ht; rw [hc] at hs; cases hs
  | rend _ ht => rw [htd] at ht; cases ht
  | plain hf ht =>
    rw [htd] at ht
    obtain ⟨y, k', he, h1, h2⟩ := ht
    cases h1 with
    | ops hc' hl =>
      rename_i ops' idx
      rw [hc] at hc'; cases hc'
      cases idx with
      | nil => cases hl
      | cons j idx =>
        simp only [List.map_cons, List.cons.injEq, Sx.o.injEq] at hl
        obtain ⟨rfl, rfl⟩ := hl
        exact ⟨hf, idx, k', he, rfl, h2⟩

theorem Ready.of {s : St} {p : List Nat} {i : Nat} {rest : List Sx} {k : List It} {o : Oper} {ops : Array Oper} {id : Nat}
    (hmd : s.md = .run) (htd : s.todo = .ops p (.o i :: rest) :: k) (hc : sub p C = some (.region id ops false)) (ho : ops[i]? = some o)
    (hw : ∀ E tmps, FrX X E s.fr tmps [] → Region.wanted o (yielded ops tmps) = true) : Ready X P A M F C s p i [] rest k o := by
  intro E fr cs0 cs w hi hs
  refine ⟨E, fr, w, .refl P _, hi, hs, .refl E w, rfl, rfl, ?_⟩
  have hm := hs.md
  rw [hmd] at hm
  simp only [MdR] at hm
  have ht := hs.todo
  simp only [hmd] at ht
  obtain ⟨hf, idx, k', he, rfl, h2⟩ := ht.text htd hc
  exact ⟨hmd, hm, ⟨_, hf, rfl⟩, hf, ops, idx, k', he, ho, hw _ _ hf, fun E' V' x y ds hE _ hx =>
    .plain ((hf.mono hE).put (a := ⟨fr.tmps, ds⟩) hx) ⟨_, _, rfl, .ops hc rfl, h2.mono hE⟩⟩

theorem Ready.ofG {s : St} {p : List Nat} {i : Nat} {rest : List Sx} {k : List It} {o : Oper} {ops : Array Oper} {id : Nat}
    (hmd : s.md = .run) (htd : s.todo = .ops p (.og i :: rest) :: k) (hc : sub p C = some (.region id ops false)) (ho : ops[i]? = some o) : Ready X P A M F C s p i [] rest k o := by
  intro E fr cs0 cs w hi hs
  refine ⟨E, fr, w, .refl P _, hi, hs, .refl E w, rfl, rfl, ?_⟩
  have hm := hs.md
  rw [hmd] at hm
  simp only [MdR] at hm
  have ht := hs.todo
  simp only [hmd] at ht
  cases ht with
  | og hf ht hr hc' hl ho' hw hk =>
    rename_i p' i' l idx k1 k' id' ops' o'
    rw [htd] at ht
    simp only [List.cons.injEq, It.ops.injEq, Sx.og.injEq] at ht
    obtain ⟨⟨rfl, rfl, rfl⟩, rfl⟩ := ht
    rw [hc] at hc'; cases hc'
    rw [ho] at ho'; cases ho'
    subst hl
    exact ⟨hmd, hm, ⟨_, hf, rfl⟩, hf, ops, idx, k', hr, ho, hw, fun E' V' x y ds hE _ hx =>
      .plain ((hf.mono hE).put (a := ⟨fr.tmps, ds⟩) hx) ⟨_, _, rfl, .ops hc rfl, hk.mono hE⟩⟩
  | dr ht _ hs => rw [htd] at ht; cases ht; rw [hc] at hs; cases hs
  | rend _ ht => rw [htd] at ht; cases ht
  | plain hf ht =>
    rw [htd] at ht
    obtain ⟨y, k', he, h1, h2⟩ := ht
    cases h1 with
    | ops hc' hl =>
      rename_i ops' idx
      cases idx <;> cases hl

/-- A guarded operation's two ways. -/
theorem AW.guard {s : St} {p : List Nat} {i : Nat} {rest : List Sx} {k : List It} {o : Oper} {id : Nat} {ops : Array Oper} {c : Bool} {Φ : St → Prop} (hmd : s.md = .run) (htd : s.todo = .ops p (.o i :: rest) :: k)
    (hc : sub p C = some (.region id ops false)) (ho : ops[i]? = some o) (hw : wantedOf A s.fr ops.toList o = some (some c))
    (h1 : c = true → AW X P A M F C { s with todo := .ops p (.og i :: rest) :: k } Φ) (h2 : c = false → AW X P A M F C { s with todo := .ops p rest :: k, fr := put s.fr o.dst (.gd false (.d (.bool false))) } Φ) : AW X P A M F C s Φ := by
  intro E fr cs0 cs w hi hs
  have ht := hs.todo
  simp only [hmd] at ht
  obtain ⟨hf, idx, k', he, rfl, h4⟩ := ht.text htd hc
  have hwt := wanted_ok hw hf
  simp only [Option.getD_some] at hwt
  cases c with
  | true =>
    refine h1 rfl E fr cs0 cs w hi ⟨hs.fn, hs.md, ?_, hs.df, hs.ro, hs.cm⟩
    simp only [hmd]
    exact .og hf rfl he hc rfl ho hwt h4
  | false =>
    obtain ⟨fr', h5, h6, h7, h8⟩ := skip_ok (w := w) (k := .ops p (idx.map .o) :: k) (x := .gd false (.d (.bool false))) hs hmd he ho hwt fun ds => .plain (hf.put (a := ⟨fr.tmps, ds⟩) ⟨fun h => (by cases h), fun _ => rfl⟩) ⟨_, _, rfl, .ops hc rfl, h4⟩
    obtain ⟨s1, E1, fr1, cs1, w1, g1, g2, g3, g4, g5, g6, g7⟩ := h2 rfl E fr' cs0 cs w hi h6
    exact ⟨s1, E1, fr1, cs1, w1, g1, h5.trans g2, g3, g4, g5, g6.trans h7, g7.trans h8⟩

end
end Go.Sk
