/- Sk, part Y: the stepper's own steps are the machine's. -/
import Derived.Test.YtlheciphihmomaaGreatDoorSkX
set_option linter.all false
namespace Go.Sk
open Go

section
variable {X : Tb} {P : Program} {M : Mt} {F : FuncId} {C : Code} {A : Ari}

/-- To the end of the activation. -/
theorem AW.toRet {s : St} {k : List It} (hmd : s.md = .run) (hro : s.ro = none) (hog : noOg C s)
    (h : ∀ E real, ItsR C E s.todo real → ∀ b a cs w, b.roundOf = none → ∃ r, Steps P (lone (Frame.atR b a real) cs w) (lone { b.atR a r with mode := .returning } cs w)) :
    AW X P A M F C s (· = { s with todo := k, md := .ret }) := by
  intro E fr cs0 cs w hi hs
  have ht := hs.todo
  simp only [hmd] at ht
  have hm := hs.md
  rw [hmd] at hm
  simp only [MdR] at hm
  have hr := hs.ro
  simp only [hro] at hr
  obtain ⟨hf, ht⟩ := hog.todo ht
  · obtain ⟨r, h2⟩ := h E _ ht fr ⟨fr.tmps, fr.defers⟩ cs w hr
    refine ⟨_, E, { fr.atR ⟨fr.tmps, fr.defers⟩ r with mode := .returning }, cs, w, rfl, ?_, hi, ⟨hs.fn, ?_, ?_, hs.df, ?_, hs.cm⟩, .refl E w, rfl, rfl⟩
    · rw [← frame_run hm] at h2; exact h2
    · simp only [MdR]
    · exact hf
    · simp only [hro]; exact hr

theorem jump_ok {s : St} {k : List It} {p : List Nat} {j : AJ} {s' : St} {ob : List Bool} (h : jumpTo C s k j = .go s' ob) (hmd : s.md = .run) (htd : s.todo = .c p :: k) (hc : sub p C = some (jumpOf j)) :
    AW X P A M F C s (· = s') := by
  have hog : noOg C s := noOg.of htd (by intro _ _ h; cases h) (by intro _ h; cases h)
  cases j with
  | ret =>
    simp only [jumpTo] at h
    split at h
    · rename_i hro
      cases h
      refine AW.toRet hmd hro hog fun E real hr b a cs w hb => ?_
      rw [htd] at hr
      obtain ⟨y, k', rfl, h1, h2⟩ := hr
      cases h1 with
      | c hc' =>
        rw [hc] at hc'; cases hc'
        exact ⟨_, .one (stepR_ret hb)⟩
    · cases h
  | exit id =>
    simp only [jumpTo] at h
    split at h
    · rename_i k' hk
      cases h
      refine AW.todo hmd (fun E real hr => ?_) hog
      rw [htd] at hr
      obtain ⟨y, k0, rfl, h1, h2⟩ := hr
      cases h1 with
      | c hc' =>
        rw [hc] at hc'; cases hc'
        obtain ⟨y', h3, h4⟩ := exit_ok h2 hk
        exact ⟨y', h4, fun b a cs w _ _ => .one (stepR_exit h3)⟩
    · split at h <;> cases h
  | goto l =>
    simp only [jumpTo] at h
    split at h
    · rename_i k' hk
      cases h
      refine AW.todo hmd (fun E real hr => ?_) hog
      rw [htd] at hr
      obtain ⟨y, k0, rfl, h1, h2⟩ := hr
      cases h1 with
      | c hc' =>
        rw [hc] at hc'; cases hc'
        obtain ⟨y1, y', h3, h4, h5⟩ := goto_ok (P := P) h2 hk
        exact ⟨y', h4, fun b a cs w _ _ => .head (stepR_goto h3) (h5 b a cs w)⟩
    · split at h <;> cases h

theorem ixs_eq : ∀ n i, ixs n i = (List.range' i n).map .o
  | 0, i => rfl
  | n + 1, i => by simp [ixs, List.range'_succ, ixs_eq n (i + 1)]

theorem codeStep_ok {s s' : St} {p : List Nat} {k : List It} {ob : List Bool} (h : codeStep A M F C s p k = .go s' ob) (hmd : s.md = .run) (htd : s.todo = .c p :: k)
    (hnd : ∀ id ops, sub p C ≠ some (.region id ops true)) : AW X P A M F C s (· = s') := by
  have hog : noOg C s := noOg.of htd (by intro _ _ h; cases h) (by intro _ h; cases h)
  have go : ∀ {c : Code} {k' : List It}, sub p C = some c → (∀ E y, ItsR C E k y → ∃ y', ItsR C E k' y' ∧ ∀ b a cs w, Steps P (lone (Frame.atR b a (.code c :: y)) cs w) (lone (b.atR a y') cs w)) →
      AW X P A M F C s (· = { s with todo := k' }) := by
    intro c k' hc hk
    refine AW.todo hmd (fun E real hr => ?_) hog
    rw [htd] at hr
    obtain ⟨y, k0, rfl, h1, h2⟩ := hr
    cases h1 with
    | c hc' =>
      rw [hc] at hc'; cases hc'
      obtain ⟨y', h3, h4⟩ := hk E _ h2
      exact ⟨y', h3, fun b a cs w _ _ => h4 b a cs w⟩
  unfold codeStep at h
  split at h
  · cases h
  · rename_i c hc
    split at h
    · cases h; exact go hc fun E y hy => ⟨y, hy, fun b a cs w => .one stepR_skip⟩
    · cases h; exact go hc fun E y hy => ⟨y, hy, fun b a cs w => .one stepR_label⟩
    · cases h
      exact go hc fun E y hy => ⟨_, ⟨_, _, rfl, .c (by rw [sub_snoc _ _ _ hc]; rfl), ⟨_, _, rfl, .c (by rw [sub_snoc _ _ _ hc]; rfl), hy⟩⟩, fun b a cs w => .one stepR_seq⟩
    · split at h <;> cases h
    · cases h
      exact go hc fun E y hy => ⟨_, ⟨_, _, rfl, .c (by rw [sub_snoc _ _ _ hc]; rfl), ⟨_, _, rfl, .blk, hy⟩⟩, fun b a cs w => .one stepR_block⟩
    · cases h
    · cases h
      exact go hc fun E y hy => ⟨_, ⟨_, _, rfl, .c (by rw [sub_snoc _ _ _ hc]; rfl), ⟨_, _, rfl, .scope hc, hy⟩⟩, fun b a cs w => .one (step_lone_go (by simp [stepG, stepG.exec, Frame.atR]))⟩
    · exact jump_ok h hmd htd hc
    · exact jump_ok h hmd htd hc
    · exact jump_ok h hmd htd hc
    · rename_i id ops draw
      cases draw with
      | true => exact absurd hc (hnd _ _)
      | false =>
        simp only [Bool.false_eq_true, if_false] at h
        cases h
        refine go hc fun E y hy => ⟨_, ⟨_, _, rfl, .ops hc ?_, hy⟩, fun b a cs w => .one stepR_region⟩
        rw [ixs_eq, List.range_eq_range']
    · split at h
      · cases h
      · split at h <;> cases h
    · cases h

/-! ### Operations -/
theorem RV.of {E : Env} {v : AV} {y : Value} (h : RV0 X E v y) (hg : ∀ c u, v ≠ .gd c u) : RV X E v y := by
  cases v <;> first | exact h | exact absurd rfl (hg _ _)

theorem FrX.put {E : Env} {fr : List AV} {a : Act} {d : Option Nat} {v : AV} {y : Value} {pd : List Nat} (hf : FrX X E fr a.tmps pd) (hv : RV X E v y) : FrX X E (put fr d v) (a.put d y).tmps pd := by
  cases d with
  | none => exact hf
  | some d =>
    simp only [Sk.put, Act.put, lset_eq]
    refine ⟨by simp [hf.1], fun i hi hp => ?_⟩
    simp only [List.length_set] at hi
    by_cases he : i = d
    · subst he
      have : lget (fr.set i v) i = v := lget_of (by simp [hi])
      rw [this]
      have : ((a.tmps.setIfInBounds i y).getD i undef) = y := by
        have hi' : i < a.tmps.size := by rw [hf.1]; exact hi
        simp [Array.getD, hi']
      rw [this]; exact hv
    · have h1 : lget (fr.set d v) i = lget fr i := lget_of (by rw [List.getElem?_set_ne (Ne.symm he)]; exact lget_some hi)
      have h2 : ((a.tmps.setIfInBounds d y).getD i undef) = a.tmps.getD i undef := by
        have hi' : i < a.tmps.size := by rw [hf.1]; exact hi
        simp [Array.getD, hi', Array.getElem_setIfInBounds_ne, Ne.symm he]
      rw [h1, h2]; exact hf.2 i hi hp

theorem FrX.ok {E : Env} {fr : List AV} {tmps : Array Value} (hf : FrX X E fr tmps []) : FrOK X E fr tmps := ⟨hf.1, fun i hi => hf.2 i hi rfl⟩

/-- An operation that hands back a value, or nothing. -/
theorem op_steps {fr : Frame} {cs : List Frame} {w w' : World} {ops : Array Oper} {i : Nat} {idx : List Nat} {k : List Item} {o : Oper} {n : Next} {y : Value}
    (hm : fr.mode = .run) (ht : fr.todo = .inRegion ops (i :: idx) :: k) (ho : ops[i]? = some o) (hw : Region.wanted o (yielded ops fr.tmps) = true) (hnd : ∀ c, o.op ≠ .defer c)
    (hr : (execOp (Act.eval ⟨fr.tmps, fr.defers⟩) o).run P w = .ok n w') (hn : n = .value y ∨ (n = .skip ∧ y = undef)) :
    Go.step P (lone fr cs w) = Go.Stepped.next (lone (fr.atR ((⟨fr.tmps, fr.defers⟩ : Act).put o.dst y) (.inRegion ops idx :: k)) cs w') := by
  have hg := stepGR_op (P := P) (b := fr) (a := ⟨fr.tmps, fr.defers⟩) (k := k) (cs := cs) (w := w) (rest := idx) ho hw
  rw [← ht, ← frame_run hm] at hg
  have hfin : fr.finish y = fr.atR ((⟨fr.tmps, fr.defers⟩ : Act).put o.dst y) (.inRegion ops idx :: k) := by
    have := Frame.finish_atR fr ⟨fr.tmps, fr.defers⟩ ops i idx k y
    rw [← ht, ← frame_run hm, ho] at this; exact this
  rw [Oper.semAt_eq _ _ _ hnd] at hg
  refine step_lone_go ?_
  rw [hg, ← hfin]
  rcases hn with rfl | ⟨rfl, rfl⟩
  · simp [stepG.apply, hr]
  · simp [stepG.apply, hr]

theorem exec_defer {fr : List AV} {V : List AO} {o : Oper} {c : Call} (ho : o.op = .defer c) {x : AV} {V' : List AO} {ob : List Bool} : ¬ (exec A X M fr V o = .v x V' ob ∨ exec A X M fr V o = .el x V' ob) := by
  intro h
  simp only [exec, ho] at h
  split at h
  · split at h <;> (rcases h with h | h <;> cases h)
  · rcases h with h | h <;> cases h

theorem nth?_eq {α : Type} : ∀ (l : List α) (n : Nat), nth? l n = l[n]?
  | [], n => by cases n <;> rfl
  | a :: l, 0 => rfl
  | a :: l, n + 1 => by simp [nth?, nth?_eq l n]

/-- The state of the machine at an operation. -/
structure AtOp (X : Tb) (P : Program) (A : Ari) (M : Mt) (C : Code) (E : Env) (s : St) (fr : Frame) (p : List Nat) (i : Nat) (pn : List Nat) (rest : List Sx) (k : List It) (o : Oper) : Prop where
  md : s.md = .run
  mode : fr.mode = .run
  tm : ∃ frU, FrX X E frU fr.tmps [] ∧ exec A X M frU s.V o = exec A X M s.fr s.V o
  pan : FrX X E (undefs s.fr pn) fr.tmps []
  todo : ∃ ops idx k', fr.todo = .inRegion ops (i :: idx) :: k' ∧ ops[i]? = some o ∧ Region.wanted o (yielded ops fr.tmps) = true ∧
    ∀ E' V' x y ds, E.le E' → (keepsV o = true → V' = s.V) → RV X E' x y → TodoR X A M C E' (put s.fr o.dst x) V' (.ops p rest :: k) ((⟨fr.tmps, ds⟩ : Act).put o.dst y).tmps (.inRegion ops idx :: k')

/-- From each state of the machine that s stands for it comes to operation i. -/
def Ready (X : Tb) (P : Program) (A : Ari) (M : Mt) (F : FuncId) (C : Code) (s : St) (p : List Nat) (i : Nat) (pn : List Nat) (rest : List Sx) (k : List It) (o : Oper) : Prop :=
  ∀ E fr cs0 cs w, Inv X P E s.V w → StR X P A M F C E s fr cs0 cs → ∃ E1 fr1 w1, Steps P (lone fr cs w) (lone fr1 cs w1) ∧ Inv X P E1 s.V w1 ∧ StR X P A M F C E1 s fr1 cs0 cs ∧ Ext E w E1 w1 ∧
    fr1.kind = fr.kind ∧ fr1.roundOf = fr.roundOf ∧ AtOp X P A M C E1 s fr1 p i pn rest k o

theorem put_defers (a : Act) (d : Option Nat) (v : Value) : (a.put d v).defers = a.defers := by cases d <;> rfl

theorem keepsV_ok {fr : List AV} {V V' : List AO} {o : Oper} {x : AV} {ob : List Bool} (h : exec A X M fr V o = .v x V' ob ∨ exec A X M fr V o = .el x V' ob) (hk : keepsV o = true) : V' = V := by
  cases hop : o.op with
  | assign y => simp only [exec, hop] at h; rcases h with h | h <;> cases h; rfl
  | _ => simp only [keepsV, hop] at hk; cases hk

theorem exec_ok (hX : TbOK X P) {s : St} {E : Env} {fr : Frame} {cs0 cs : List Frame} {w : World} {p : List Nat} {i : Nat} {pn : List Nat} {rest : List Sx} {k : List It} {o : Oper} {x x' : AV} {V' : List AO} {ob : List Bool}
    (hi : Inv X P E s.V w) (hs : StR X P A M F C E s fr cs0 cs) (ha : AtOp X P A M C E s fr p i pn rest k o) (h : exec A X M s.fr s.V o = .v x V' ob ∨ exec A X M s.fr s.V o = .el x V' ob) (ho : Obl ob) (hx : ∀ E y, RV0 X E x y → RV X E x' y) :
    ∃ E' fr' w', Steps P (lone fr cs w) (lone fr' cs w') ∧ Inv X P E' V' w' ∧ StR X P A M F C E' { s with todo := .ops p rest :: k, fr := put s.fr o.dst x', V := V' } fr' cs0 cs ∧ Ext E w E' w' ∧ fr'.kind = fr.kind ∧ fr'.roundOf = fr.roundOf := by
  obtain ⟨ops, idx, k', ht, hop, hw, hcont⟩ := ha.todo
  obtain ⟨frU, hfU, hexU⟩ := ha.tm
  have htold := told (A := A) (M := M) (a := ⟨fr.tmps, fr.defers⟩) hX hi hfU.ok o x V' ob (by rw [hexU]; exact h) ho
  obtain ⟨n, w', E', hr, hn, hi', he⟩ := htold
  have hnd : ∀ c, o.op ≠ .defer c := fun c hc => exec_defer hc h
  have main : ∀ y, (n = .value y ∨ (n = .skip ∧ y = undef)) → RV X E' x' y → ∃ E' fr' w', Steps P (lone fr cs w) (lone fr' cs w') ∧ Inv X P E' V' w' ∧ StR X P A M F C E' { s with todo := .ops p rest :: k, fr := put s.fr o.dst x', V := V' } fr' cs0 cs ∧ Ext E w E' w' ∧ fr'.kind = fr.kind ∧ fr'.roundOf = fr.roundOf := by
    intro y hny hrv
    have hstep := op_steps (P := P) (cs := cs) ha.mode ht hop hw hnd hr hny
    refine ⟨E', _, w', .one hstep, hi', ⟨hs.fn, ?_, ?_, ?_, ?_, ?_⟩, he, rfl, rfl⟩
    · simp only [ha.md, MdR]; rfl
    · simp only [ha.md]
      exact hcont E' V' x' y _ he.le (keepsV_ok h) hrv
    · have := hs.df.mono he.le
      simp only [Frame.atR, put_defers]; exact this
    · have := hs.ro
      revert this
      cases hro : s.ro with
      | none => exact fun h => h
      | some r => rintro ⟨l, h1, h2⟩; obtain ⟨g, hg, hle⟩ := he.le.ρ _ _ h2; simp only [Gh.le] at hle; subst hle; exact ⟨l, h1, hg⟩
    · have := hs.cm
      revert this
      cases hcm : s.cm with
      | none => exact fun h => h
      | some m => rintro ⟨hk, c, k, m', h1, h2, h3⟩; exact ⟨hk, c, k, m', h1, h2, h3.mono he.le⟩
  rcases hn with ⟨y, rfl, hv⟩ | ⟨rfl, rfl⟩
  · exact main y (.inl rfl) (hx _ _ hv)
  · exact main undef (.inr ⟨rfl, rfl⟩) (hx _ _ rv_undef)

end
end Go.Sk
