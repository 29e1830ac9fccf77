/- Sk, part V: the operations, all together. -/
import Derived.Test.YtlheciphihmomaaGreatDoorSkU
set_option linter.all false
namespace Go.Sk
open Go

section
variable {X : Tb} {P : Program} {E : Env} {V : List AO} {w w' : World} {A : Ari} {fr : List AV} {a : Act}

theorem VDone.mk' {E' : Env} {r : Result Next} {x : AV} {y : Value} {V' : List AO} (hr : r = .ok (.value y) w') (hv : RV0 X E' x y) (hi : Inv X P E' V' w') (he : Ext E w E' w') : VDone X P E w r x V' :=
  ⟨_, w', E', hr, .inl ⟨y, rfl, hv⟩, hi, he⟩

/-- A value's run, in the frame of an operation. -/
theorem run_v {s : Sem Value} {y : Value} (h : s.run P w = .ok y w') : (do pure (Next.value (← s)) : Sem Next).run P w = .ok (.value y) w' := by
  simp [h]
theorem run_u {s : Sem Unit} (h : s.run P w = .ok () w') : (do s; pure Next.skip : Sem Next).run P w = .ok .skip w' := by
  simp [h]

theorem intOf_ok {v : AV} {n : Int} {y : Value} (h : intOf v = some n) (hv : RV0 X E v y) : ∃ k, y = .int k n := by
  unfold intOf at h
  split at h
  · simp only [Option.some.injEq] at h; subst h; exact ⟨_, rv_int.1 hv⟩
  · cases h

theorem optInt_ok (hf : FrOK X E fr a.tmps) {x : Option Operand} {n : Option Int} (h : optInt fr x = some n) (ho : Obl (optO A fr x)) : ∃ k, x.map a.eval = optV k n := by
  cases x with
  | none => simp only [optInt, Option.some.injEq] at h; subst h; exact ⟨.i64, rfl⟩
  | some x =>
    simp only [optInt] at h
    split at h
    · rename_i m hm
      simp only [Option.some.injEq] at h; subst h
      obtain ⟨k, hk⟩ := intOf_ok hm (ov_ok hf x ho)
      exact ⟨k, by simp [optV, hk]⟩
    · cases h

theorem elemOf_ok {t e : Nat} (h : elemOf X t = some e) : X.td t = .sl e := by
  unfold elemOf at h
  split at h
  · rename_i h1; simp only [Option.some.injEq] at h; subst h; exact h1
  · cases h

theorem srcT_ok (hX : TbOK X P) {u : Nat} (h : (isSl X u || isStr X u) = true) : srcT P u := by
  simp only [Bool.or_eq_true] at h
  rcases h with h | h
  · unfold isSl at h; split at h
    · rename_i e htd
      obtain ⟨u1, hu1, hd1⟩ := (hX.known htd (by intro l h; cases h) (by intro h; cases h)).und
      simp only [DescOK] at hd1; subst hd1
      exact .inl ⟨_, hu1⟩
    · cases h
  · unfold isStr at h; split at h
    · rename_i htd
      obtain ⟨u1, hu1, hd1⟩ := (hX.known htd (by intro l h; cases h) (by intro h; cases h)).und
      simp only [DescOK] at hd1; subst hd1
      exact .inr hu1
    · cases h

theorem vO_v {r : Option (AV × List Bool)} {V : List AO} {o : List Bool} {n : Nat} {x : AV} {V' : List AO} {ob : List Bool} (h : vO r V o n = .v x V' ob) : ∃ o', r = some (x, o') ∧ V' = V ∧ ob = o ++ o' := by
  unfold vO at h; split at h
  · simp only [OR.v.injEq] at h; obtain ⟨rfl, rfl, rfl⟩ := h; exact ⟨_, rfl, rfl, rfl⟩
  · cases h
theorem vO_el {r : Option (AV × List Bool)} {V : List AO} {o : List Bool} {n : Nat} {x : AV} {V' : List AO} {ob : List Bool} (h : vO r V o n = .el x V' ob) : False := by
  unfold vO at h; split at h <;> cases h
theorem vV_v {r : Option (AV × List AO × List Bool)} {o : List Bool} {n : Nat} {x : AV} {V' : List AO} {ob : List Bool} (h : vV r o n = .v x V' ob) : ∃ o', r = some (x, V', o') ∧ ob = o ++ o' := by
  unfold vV at h; split at h
  · simp only [OR.v.injEq] at h; obtain ⟨rfl, rfl, rfl⟩ := h; exact ⟨_, rfl, rfl⟩
  · cases h
theorem vV_el {r : Option (AV × List AO × List Bool)} {o : List Bool} {n : Nat} {x : AV} {V' : List AO} {ob : List Bool} (h : vV r o n = .el x V' ob) : False := by
  unfold vV at h; split at h <;> cases h
theorem vE_ve {r : Option (AV × List Bool × Bool)} {V : List AO} {o : List Bool} {n : Nat} {x : AV} {V' : List AO} {ob : List Bool} (h : vE r V o n = .v x V' ob ∨ vE r V o n = .el x V' ob) : ∃ o' g, r = some (x, o', g) ∧ V' = V ∧ ob = o ++ o' := by
  unfold vE at h; split at h
  · rcases h with h | h
    · cases h
    · simp only [OR.el.injEq] at h; obtain ⟨rfl, rfl, rfl⟩ := h; exact ⟨_, _, rfl, rfl, rfl⟩
  · rcases h with h | h
    · simp only [OR.v.injEq] at h; obtain ⟨rfl, rfl, rfl⟩ := h; exact ⟨_, _, rfl, rfl, rfl⟩
    · cases h
  · rcases h with h | h <;> cases h

/-- What an operation that hands back a value is told to do, it does. -/
def Told (X : Tb) (P : Program) (A : Ari) (M : Mt) (E : Env) (V : List AO) (w : World) (fr : List AV) (a : Act) (o : Oper) : Prop :=
  ∀ x V' ob, (exec A X M fr V o = .v x V' ob ∨ exec A X M fr V o = .el x V' ob) → Obl ob → VDone X P E w ((execOp a.eval o).run P w) x V'

variable {M : Mt}

theorem told_move (hi : Inv X P E V w) (hf : FrOK X E fr a.tmps) {o : Oper} {x : Operand} (ho : o.op = .move x ∨ o.op = .assign x) : Told X P A M E V w fr a o := by
  intro v V' ob h hb
  have h1 : exec A X M fr V o = .v (ov fr x) V (oo A fr x) := by rcases ho with ho | ho <;> simp only [exec, ho]
  rw [h1] at h
  rcases h with h | h
  · simp only [OR.v.injEq] at h; obtain ⟨rfl, rfl, rfl⟩ := h
    exact .same hi (by rcases ho with ho | ho <;> simp [execOp, ho]) (ov_ok hf x hb)
  · cases h

theorem told_pick (hi : Inv X P E V w) (hf : FrOK X E fr a.tmps) {o : Oper} {c u v : Operand} (ho : o.op = .pick c u v) : Told X P A M E V w fr a o := by
  intro x V' ob h hb
  simp only [exec, ho] at h
  split at h
  · rename_i c0 a0 ca b0 cb hc ha hb'
    rcases h with h | h
    · simp only [OR.v.injEq] at h; obtain ⟨rfl, rfl, rfl⟩ := h
      rw [Obl_append, Obl_append] at hb
      obtain ⟨⟨h1, h2⟩, h3⟩ := hb
      have hcv := ov_ok hf c h1
      rw [hc, rv_bool] at hcv
      have e : (execOp a.eval o).run P w = .ok (.value (if c0 then a.eval u else a.eval v)) w := by
        simp [execOp, ho, hcv, asBool]
      refine .same hi e ?_
      rw [rv_bool, A.pick_eq]
      cases c0 with
      | true =>
        simp only [if_true, cond_true]
        refine avB_ok (A := A) hf ha ?_
        intro c1 hc1; subst hc1
        simp only [Obl, A.imp_eq, A.tt_eq, and_true] at h2; exact h2 trivial
      | false =>
        simp only [Bool.false_eq_true, if_false, cond_false]
        refine avB_ok (A := A) hf hb' ?_
        intro c1 hc1; subst hc1
        simp only [Obl, A.imp_eq, A.tt_eq, A.not_eq, and_true] at h3; exact h3 rfl
    · cases h
  · rcases h with h | h <;> cases h

theorem told_alloc (hX : TbOK X P) (hi : Inv X P E V w) {o : Oper} {t : Nat} (ho : o.op = .alloc t) : Told X P A M E V w fr a o := by
  intro x V' ob h hb
  simp only [exec, ho] at h
  split at h
  · rename_i hc
    simp only [Bool.and_eq_true] at hc
    rcases h with h | h
    · simp only [OR.v.injEq] at h; obtain ⟨rfl, rfl, rfl⟩ := h
      obtain ⟨z, w', E', h1, h2, h3, h4⟩ := alloc_ok hX hi hc.1 hc.2
      exact .mk' (by simp only [execOp, ho]; exact run_v h1) h2 h3 h4
    · cases h
  · rcases h with h | h <;> cases h

theorem told_box (hi : Inv X P E V w) (hf : FrOK X E fr a.tmps) {o : Oper} {t : Nat} {u : Operand} (ho : o.op = .box t u) : Told X P A M E V w fr a o := by
  intro x V' ob h hb
  simp only [exec, ho] at h
  split at h
  · rename_i hc
    simp only [Bool.and_eq_true] at hc
    rcases h with h | h
    · simp only [OR.v.injEq] at h; obtain ⟨rfl, rfl, rfl⟩ := h
      obtain ⟨z, w', E', h1, h2, h3, h4⟩ := box_ok hi hc.1.1 hc.2 (ov_ok hf u hb)
      exact .mk' (by simp only [execOp, ho]; exact run_v h1) h2 h3 h4
    · cases h
  · rcases h with h | h <;> cases h

theorem buildParts_agg {t : Nat} {z v : AV} {ps : List (Nat × AV)} {o : List Bool} (h : buildParts A X t z ps = some (v, o)) (hp : ps ≠ []) : (X.td t).isAgg = true := by
  cases ps with
  | nil => exact absurd rfl hp
  | cons p ps =>
    unfold buildParts at h
    split at h
    · rename_i h1; rw [h1]; rfl
    · rename_i h1; rw [h1]; rfl
    · cases h

theorem told_load (hX : TbOK X P) (hi : Inv X P E V w) (hf : FrOK X E fr a.tmps) {o : Oper} {t : Nat} {u : Operand} (ho : o.op = .load t u) : Told X P A M E V w fr a o := by
  intro x V' ob h hb
  simp only [exec, ho] at h
  split at h
  · rename_i v hv
    rcases h with h | h
    · simp only [OR.v.injEq] at h; obtain ⟨rfl, rfl, rfl⟩ := h
      obtain ⟨z, h1, h2⟩ := load_ok hX hi hv (dov_ok hi hf u hb)
      exact .same hi (by simp only [execOp, ho]; exact run_v h1) h2
    · cases h
  · rcases h with h | h <;> cases h

theorem told_store (hX : TbOK X P) (hi : Inv X P E V w) (hf : FrOK X E fr a.tmps) {o : Oper} {t : Nat} {u v : Operand} (ho : o.op = .store t u v) : Told X P A M E V w fr a o := by
  intro x V' ob h hb
  simp only [exec, ho] at h
  split at h
  · rename_i V1 o1 hv
    rcases h with h | h
    · simp only [OR.v.injEq] at h; obtain ⟨rfl, rfl, rfl⟩ := h
      rw [Obl_append, Obl_append] at hb
      obtain ⟨w', h1, h2, h3⟩ := store_ok hX hi hv hb.2 (ov_ok hf u hb.1.1) (ov_ok hf v hb.1.2)
      exact ⟨_, w', E, by simp only [execOp, ho]; exact run_u h1, .inr ⟨rfl, rfl⟩, h2, h3⟩
    · cases h
  · rcases h with h | h <;> cases h

theorem told_nilCheck (hi : Inv X P E V w) (hf : FrOK X E fr a.tmps) {o : Oper} {u : Operand} (ho : o.op = .nilCheck u) : Told X P A M E V w fr a o := by
  intro x V' ob h hb
  simp only [exec, ho] at h
  have key : ∀ v, deref X (ov fr u) = v → (v.isAgg = false) → (∀ y, RV0 X E v y → (∃ ad, y = .pointer (some ad)) ∨ (∃ f p q, y = .func (.func f) p q) ∨ (∃ l p q, y = .func (.yield l) p q)) →
      Obl (oo A fr u) → VDone X P E w ((execOp a.eval o).run P w) v V := by
    intro v hv _ hy hob
    have hr := dov_ok hi hf u hob
    rw [hv] at hr
    refine .same hi (y := a.eval u) ?_ hr
    rcases hy _ hr with ⟨ad, h1⟩ | ⟨f, p, q, h1⟩ | ⟨l, p, q, h1⟩ <;> simp [execOp, ho, h1]
  split at h
  · rcases h with h | h <;> cases h
  · rename_i r p hv
    rcases h with h | h
    · simp only [OR.v.injEq] at h; obtain ⟨rfl, rfl, rfl⟩ := h
      refine key _ hv rfl (fun y hy => ?_) hb
      rw [rv_of_scalar rfl] at hy; simp only [R] at hy
      obtain ⟨b, t, o, h1, _⟩ := hy; simp only [List.cons.injEq, and_true] at h1; exact .inl ⟨_, h1⟩
    · cases h
  · rename_i r g i p hv
    split at h
    · rename_i e q g' hV
      split at h
      · rename_i hg0
        simp only [beq_iff_eq] at hg0; subst hg0
        rcases h with h | h
        · simp only [OR.v.injEq] at h; obtain ⟨rfl, rfl, rfl⟩ := h
          refine key _ hv rfl (fun y hy => ?_) hb
          rw [rv_of_scalar rfl] at hy; simp only [R] at hy
          obtain ⟨b, e0, g0, n, cap, y', hy0, hone, hg, hle, hgo⟩ := hy
          simp only [List.cons.injEq, and_true] at hy0; subst hy0
          obtain ⟨b', cap', hb, hcap, hst0, cs, ds, hc, hr, hlen, htake⟩ := hi.arr hV hg
          simp only [Gh.arr.injEq] at hb; obtain ⟨rfl, rfl, rfl, rfl, rfl⟩ := hb
          obtain ⟨h0, h1, o', h2, h3⟩ := hgo rfl
          exact .inl ⟨_, h3⟩
        · cases h
      · rcases h with h | h <;> cases h
    · rcases h with h | h <;> cases h
  · rename_i y p hv
    rcases h with h | h
    · simp only [OR.v.injEq] at h; obtain ⟨rfl, rfl, rfl⟩ := h
      refine key _ hv rfl (fun y hy => ?_) hb
      rw [rv_of_scalar rfl] at hy; simp only [R] at hy
      obtain ⟨b, t, o, _, h1, _⟩ := hy; simp only [List.cons.injEq, and_true] at h1; exact .inl ⟨_, h1⟩
    · cases h
  · rename_i f p q hv
    rcases h with h | h
    · simp only [OR.v.injEq] at h; obtain ⟨rfl, rfl, rfl⟩ := h
      refine key _ hv rfl (fun y hy => ?_) hb
      obtain ⟨a', c', h1, _⟩ := rv_fn.1 hy; exact .inr (.inl ⟨_, _, _, h1⟩)
    · cases h
  · rename_i r hv
    rcases h with h | h
    · simp only [OR.v.injEq] at h; obtain ⟨rfl, rfl, rfl⟩ := h
      refine key _ hv rfl (fun y hy => ?_) hb
      rw [rv_of_scalar rfl] at hy; simp only [R] at hy
      obtain ⟨b, h1, _⟩ := hy; simp only [List.cons.injEq, and_true] at h1; exact .inr (.inr ⟨_, _, _, h1⟩)
    · cases h
  · rcases h with h | h <;> cases h

theorem told_binOp (hX : TbOK X P) (hi : Inv X P E V w) (hf : FrOK X E fr a.tmps) {o : Oper} {b : BinOp} {t ty : Nat} {u v : Operand} (ho : o.op = .binOp b t u v ty) : Told X P A M E V w fr a o := by
  intro x V' ob h hb
  simp only [exec, ho] at h
  split at h
  · rcases h with h | h <;> cases h
  · rename_i hn
    rcases h with h | h
    · obtain ⟨o', h1, rfl, rfl⟩ := vO_v h
      rw [Obl_append, Obl_append] at hb
      obtain ⟨z, h2, h3⟩ := binOp_ok (w := w) hX h1 hb.2 (ov_ok hf u hb.1.1) (ov_ok hf v hb.1.2) u v (by simpa using hn)
      exact .same hi (by simp only [execOp, ho]; exact run_v h2) h3
    · exact (vO_el h).elim

theorem told_unOp (hi : Inv X P E V w) (hf : FrOK X E fr a.tmps) {o : Oper} {b : UnOp} {t : Nat} {u : Operand} (ho : o.op = .unOp b t u) : Told X P A M E V w fr a o := by
  intro x V' ob h hb
  simp only [exec, ho] at h
  split at h
  · rename_i c hc
    rcases h with h | h
    · simp only [OR.v.injEq] at h; obtain ⟨rfl, rfl, rfl⟩ := h
      have := ov_ok hf u hb
      rw [hc, rv_bool] at this
      exact .same hi (by simp only [execOp, ho, this]; exact run_v (run_not (A := A))) (rv_bool.2 rfl)
    · cases h
  · rename_i k n hc
    rcases h with h | h
    · simp only [OR.v.injEq] at h; obtain ⟨rfl, rfl, rfl⟩ := h
      have := ov_ok hf u hb
      rw [hc, rv_int] at this
      exact .same hi (by simp only [execOp, ho, this]; exact run_v (run_neg (A := A))) (rv_int.2 rfl)
    · cases h
  · rename_i k n hc
    rcases h with h | h
    · simp only [OR.v.injEq] at h; obtain ⟨rfl, rfl, rfl⟩ := h
      have := ov_ok hf u hb
      rw [hc, rv_int] at this
      exact .same hi (by simp only [execOp, ho, this]; exact run_v (run_xor (A := A))) (rv_int.2 rfl)
    · cases h
  · rcases h with h | h <;> cases h

theorem told_makeInterface (hX : TbOK X P) (hi : Inv X P E V w) (hf : FrOK X E fr a.tmps) {o : Oper} {t : Nat} {u : Operand} (ho : o.op = .makeInterface t u) : Told X P A M E V w fr a o := by
  intro x V' ob h hb
  simp only [exec, ho] at h
  split at h
  · rename_i hk
    split at h
    · rcases h with h | h <;> cases h
    · rename_i hne
      rcases h with h | h
      · simp only [OR.v.injEq] at h; obtain ⟨rfl, rfl, rfl⟩ := h
        obtain ⟨z, h1, h2⟩ := makeInterface_ok (w := w) hX (fun e he => hne _ he) hk (ov_ok hf u hb)
        exact .same hi (by simp only [execOp, ho]; exact run_v h1) h2
      · cases h
  · rcases h with h | h <;> cases h

theorem told_makeFunc (hi : Inv X P E V w) (hf : FrOK X E fr a.tmps) {o : Oper} {fn : Fn} {fst cap : Array Operand} (ho : o.op = .makeFunc fn fst cap) : Told X P A M E V w fr a o := by
  intro x V' ob h hb
  simp only [exec, ho] at h
  split at h
  · rename_i f
    rcases h with h | h
    · simp only [OR.v.injEq] at h; obtain ⟨rfl, rfl, rfl⟩ := h
      rw [Obl_append] at hb
      refine .same hi (y := .func (.func f) (fst.map a.eval) (cap.map a.eval)) (by simp only [execOp, ho]; exact run_v (by simp [Instr.makeFunc])) ?_
      exact rv_fn.2 ⟨fst.toList.map a.eval, cap.toList.map a.eval, by simp [← Array.toList_map], ovs_ok hf fst.toList hb.1, ovs_ok hf cap.toList hb.2⟩
    · cases h
  · rcases h with h | h <;> cases h

theorem told_slice (hX : TbOK X P) (hi : Inv X P E V w) (hf : FrOK X E fr a.tmps) {o : Oper} {t : Nat} {u : Operand} {lo hh mx : Option Operand} (ho : o.op = .slice t u lo hh mx) : Told X P A M E V w fr a o := by
  intro x V' ob h hb
  simp only [exec, ho] at h
  split at h
  · rename_i l0 h0 m0 e1 e2 e3
    rcases h with h | h
    · obtain ⟨o', h1, rfl, rfl⟩ := vO_v h
      rw [Obl_append, Obl_append, Obl_append, Obl_append] at hb
      obtain ⟨⟨⟨⟨b1, b2⟩, b3⟩, b4⟩, b5⟩ := hb
      obtain ⟨k1, g1⟩ := optInt_ok hf e1 b2
      obtain ⟨k2, g2⟩ := optInt_ok hf e2 b3
      obtain ⟨k3, g3⟩ := optInt_ok hf e3 b4
      obtain ⟨z, h2, h3⟩ := sliceAV_ok hX hi (kl := k1) (kh := k2) (km := k3) h1 b5 (dov_ok hi hf u b1)
      exact .same hi (by simp only [execOp, ho, g1, g2, g3]; exact run_v h2) h3
    · exact (vO_el h).elim
  · rcases h with h | h <;> cases h

theorem told_fieldAddr (hX : TbOK X P) (hi : Inv X P E V w) (hf : FrOK X E fr a.tmps) {o : Oper} {s f : Nat} {u : Operand} (ho : o.op = .fieldAddr s u f) : Told X P A M E V w fr a o := by
  intro x V' ob h hb
  simp only [exec, ho] at h
  split at h
  · rename_i r p hv
    split at h
    · rename_i t v hV
      split at h
      · rename_i hc
        simp only [Bool.and_eq_true] at hc
        rcases h with h | h
        · simp only [OR.v.injEq] at h; obtain ⟨rfl, rfl, rfl⟩ := h
          have hr := dov_ok hi hf u hb; rw [hv] at hr
          obtain ⟨z, h1, h2⟩ := fieldAddr_ptr hX hi hV hc.1 hc.2 hr
          exact .same hi (by simp only [execOp, ho]; exact run_v h1) h2
        · cases h
      · rcases h with h | h <;> cases h
    · rcases h with h | h <;> cases h
  · rename_i r g i p hv
    split at h
    · rename_i e q g' hV
      split at h
      · rename_i hc
        simp only [Bool.and_eq_true, beq_iff_eq] at hc
        obtain ⟨⟨rfl, h1⟩, h2⟩ := hc
        rcases h with h | h
        · simp only [OR.v.injEq] at h; obtain ⟨rfl, rfl, rfl⟩ := h
          have hr := dov_ok hi hf u hb; rw [hv] at hr
          obtain ⟨z, h1, h2⟩ := fieldAddr_ep hX hi hV h1 h2 hr
          exact .same hi (by simp only [execOp, ho]; exact run_v h1) h2
        · cases h
      · rcases h with h | h <;> cases h
    · rcases h with h | h <;> cases h
  · rename_i y p hv
    split at h
    · rename_i hc
      simp only [Bool.and_eq_true] at hc
      rcases h with h | h
      · simp only [OR.v.injEq] at h; obtain ⟨rfl, rfl, rfl⟩ := h
        have hr := dov_ok hi hf u hb; rw [hv] at hr
        obtain ⟨z, h1, h2⟩ := fieldAddr_pd hX hc.1 hc.2 hr
        exact .same hi (by simp only [execOp, ho]; exact run_v h1) h2
      · cases h
    · rcases h with h | h <;> cases h
  · rcases h with h | h <;> cases h

theorem told_field (hX : TbOK X P) (hi : Inv X P E V w) (hf : FrOK X E fr a.tmps) {o : Oper} {s f : Nat} {u : Operand} (ho : o.op = .field s u f) : Told X P A M E V w fr a o := by
  intro x V' ob h hb
  simp only [exec, ho] at h
  split at h
  · rename_i hc
    simp only [Bool.and_eq_true] at hc
    split at h
    · rename_i l hv
      rcases h with h | h
      · simp only [OR.v.injEq] at h; obtain ⟨rfl, rfl, rfl⟩ := h
        obtain ⟨z, h1, h2⟩ := field_ok A hX hc.1 hc.2 (.inl ⟨l, hv, rfl⟩) (ov_ok hf u hb)
        exact .same hi (by simp only [execOp, ho]; exact run_v h1) h2
      · cases h
    · rename_i l hv
      rcases h with h | h
      · simp only [OR.v.injEq] at h; obtain ⟨rfl, rfl, rfl⟩ := h
        obtain ⟨z, h1, h2⟩ := field_ok A hX hc.1 hc.2 (.inr ⟨l, hv, rfl⟩) (ov_ok hf u hb)
        exact .same hi (by simp only [execOp, ho]; exact run_v h1) h2
      · cases h
    · rcases h with h | h <;> cases h
  · rcases h with h | h <;> cases h

theorem told_indexAddr (hX : TbOK X P) (hi : Inv X P E V w) (hf : FrOK X E fr a.tmps) {o : Oper} {t : Nat} {u v : Operand} (ho : o.op = .indexAddr t u v) : Told X P A M E V w fr a o := by
  intro x V' ob h hb
  simp only [exec, ho] at h
  split at h
  · rename_i n hn
    obtain ⟨o', g, h1, rfl, rfl⟩ := vE_ve h
    rw [Obl_append, Obl_append] at hb
    obtain ⟨k, hk⟩ := intOf_ok hn (ov_ok hf v hb.1.2)
    obtain ⟨z, h2, h3⟩ := ixAddr_ok hX hi (k := k) h1 hb.2 (dov_ok hi hf u hb.1.1)
    exact .same hi (by simp only [execOp, ho, hk]; exact run_v h2) h3
  · rcases h with h | h <;> cases h

theorem told_index (hX : TbOK X P) (hi : Inv X P E V w) (hf : FrOK X E fr a.tmps) {o : Oper} {t : Nat} {u v : Operand} (ho : o.op = .index t u v) : Told X P A M E V w fr a o := by
  intro x V' ob h hb
  simp only [exec, ho] at h
  split at h
  · rename_i n hn
    obtain ⟨o', g, h1, rfl, rfl⟩ := vE_ve h
    rw [Obl_append, Obl_append] at hb
    obtain ⟨k, hk⟩ := intOf_ok hn (ov_ok hf v hb.1.2)
    obtain ⟨z, h2, h3⟩ := ixVal_ok (w := w) hX (k := k) h1 hb.2 (ov_ok hf u hb.1.1)
    exact .same hi (by simp only [execOp, ho, hk]; exact run_v h2) h3
  · rcases h with h | h <;> cases h

theorem told_extract (hi : Inv X P E V w) (hf : FrOK X E fr a.tmps) {o : Oper} {i : Nat} {u : Operand} (ho : o.op = .extract u i) : Told X P A M E V w fr a o := by
  intro x V' ob h hb
  simp only [exec, ho] at h
  split at h
  · rename_i l hv
    split at h
    · rename_i hc
      rcases h with h | h
      · simp only [OR.v.injEq] at h; obtain ⟨rfl, rfl, rfl⟩ := h
        have hr := ov_ok hf u hb; rw [hv] at hr
        obtain ⟨z, h1, h2⟩ := extract_ok (P := P) (w := w) hc hr
        exact .same hi (by simp only [execOp, ho]; exact run_v h1) h2
      · cases h
    · rcases h with h | h <;> cases h
  · rcases h with h | h <;> cases h

theorem told_makeSlice (hX : TbOK X P) (hi : Inv X P E V w) (hf : FrOK X E fr a.tmps) {o : Oper} {t : Nat} {u v : Operand} (ho : o.op = .makeSlice t u v) : Told X P A M E V w fr a o := by
  intro x V' ob h hb
  simp only [exec, ho] at h
  split at h
  · rename_i e n m he hn hm
    split at h
    · rcases h with h | h <;> cases h
    · rename_i hc
      simp only [Bool.not_eq_true', Bool.not_eq_false', Bool.and_eq_true, Nat.blt_eq, Bool.not_eq_false] at hc
      obtain ⟨⟨⟨c1, c2⟩, c3⟩, c4⟩ := hc
      have ht := elemOf_ok he
      split at h
      · rcases h with h | h
        · simp only [OR.v.injEq] at h; obtain ⟨rfl, rfl, rfl⟩ := h
          simp only [Obl_append, Obl, A.ge0_eq, A.eqI_eq, A.room_eq, and_true] at hb
          obtain ⟨⟨b1, b2⟩, b3, rfl, b4⟩ := hb
          obtain ⟨k1, g1⟩ := intOf_ok hn (ov_ok hf u b1)
          obtain ⟨k2, g2⟩ := intOf_ok hm (ov_ok hf v b2)
          obtain ⟨z, w', h1, h2, _⟩ := makeSlice_ok (A := A) hX hi (kl := k1) (kc := k2) ht c1 c2 c3 c4 b3 (Int.le_refl _) b4
          obtain ⟨E', h3, h4, h5⟩ := h2 rfl
          exact .mk' (by simp only [execOp, ho, g1, g2]; exact run_v h1) h3 h4 h5
        · cases h
      · rcases h with h | h
        · simp only [OR.v.injEq] at h; obtain ⟨rfl, rfl, rfl⟩ := h
          simp only [Obl_append, Obl, A.bnd_eq, A.room_eq, and_true] at hb
          obtain ⟨⟨b1, b2⟩, ⟨_, b3, b5⟩, b4⟩ := hb
          obtain ⟨k1, g1⟩ := intOf_ok hn (ov_ok hf u b1)
          obtain ⟨k2, g2⟩ := intOf_ok hm (ov_ok hf v b2)
          obtain ⟨z, w', h1, _, E', h3, h4, h5⟩ := makeSlice_ok (A := A) hX hi (kl := k1) (kc := k2) ht c1 c2 c3 c4 b3 b5 b4
          exact .mk' (by simp only [execOp, ho, g1, g2]; exact run_v h1) h3 h4 h5
        · cases h
  · rcases h with h | h <;> cases h

theorem told_build (hX : TbOK X P) (hi : Inv X P E V w) (hf : FrOK X E fr a.tmps) {o : Oper} {t : Nat} {ps : Array (Nat × Operand)} (ho : o.op = .build t ps) : Told X P A M E V w fr a o := by
  intro x V' ob h hb
  simp only [exec, ho] at h
  split at h
  · rename_i hc
    simp only [Bool.and_eq_true] at hc
    split at h
    · rename_i v o1 hv
      rcases h with h | h
      · simp only [OR.v.injEq] at h; obtain ⟨rfl, rfl, rfl⟩ := h
        rw [Obl_append] at hb
        obtain ⟨z, h1, h2⟩ := build_ok (a := a) (w := w) hX hc.1.1.1 hc.1.1.2 hc.1.2 hv hb.2 hb.1 hf hc.2
        exact .same hi (by simp only [execOp, ho]; exact run_v h1) h2
      · cases h
    · rcases h with h | h <;> cases h
  · rcases h with h | h <;> cases h

theorem told_buildSlice (hX : TbOK X P) (hi : Inv X P E V w) (hf : FrOK X E fr a.tmps) {o : Oper} {t n : Nat} {ps : Array (Nat × Operand)} (ho : o.op = .buildSlice t n ps) : Told X P A M E V w fr a o := by
  intro x V' ob h hb
  simp only [exec, ho] at h
  split at h
  · rename_i hps
    split at h
    · rename_i e he
      split at h
      · rename_i hc
        simp only [Bool.and_eq_true, Nat.blt_eq] at hc
        rcases h with h | h
        · simp only [OR.v.injEq] at h; obtain ⟨rfl, rfl, rfl⟩ := h
          obtain ⟨ut, hut, hdt⟩ := (hX.known (elemOf_ok he) (by intro l h; cases h) (by intro h; cases h)).und
          simp only [DescOK] at hdt; subst hdt
          obtain ⟨k1, k2⟩ := kn_td hc.1.1
          have hps' : (ps.map fun (i, x) => (i, a.eval x)) = #[] := by
            apply Array.toList_inj.1; simp [hps]
          have hs := run_sizeOf (w := w) hX rfl k1 k2
          have hrun : (Instr.buildSlice t 0 (ps.map fun (i, x) => (i, a.eval x))).run P w = .ok (.slice (some ⟨w.heap.size, 0, none⟩) 0 0) (w.alloc (.cells #[] e)) := by
            rw [hps']; simp [Instr.buildSlice, run_und_raw hut, hs, Instr.fill, newRow, Array.range]; congr 2; exact Array.toList_inj.1 (by simp)
          obtain ⟨g1, g2⟩ := hi.more (Γ' := E.Γ) (w' := World.push w (.cells #[] e)) (Kept.push _ _ _) (fun _ _ _ h => h) (fun b o v h => .inl h)
          exact .mk' (by simp only [execOp, ho]; exact run_v hrun) (rv_slx.2 ⟨[], emptySq_rel, by rw [emptySq_len]; exact .inr ⟨_, rfl, rfl⟩, by rw [emptySq_len]; rfl⟩) g1 g2
        · cases h
      · rcases h with h | h <;> cases h
    · rcases h with h | h <;> cases h
  unfold buildSl at h
  split at h
  · rename_i e he
    split at h
    · rename_i hc
      simp only [Bool.and_eq_true, Nat.blt_eq, Nat.ble_eq] at hc
      obtain ⟨⟨⟨⟨c1, c2⟩, c3⟩, c4⟩, c5⟩ := hc
      split at h
      · rename_i l hl
        split at h
        · rename_i q o1 hq
          have fin : Obl (oos A fr (ps.toList.map (·.2)) ++ o1) → _ := fun hb => buildSlice_ok (a := a) hX hi (elemOf_ok he) c1 c2 c3 c4 c5 hl hq ((Obl_append.1 hb).2) ((Obl_append.1 hb).1) hf
          split at h
          · rename_i r g off ln V1 hns
            rcases h with h | h
            · simp only [OR.v.injEq] at h; obtain ⟨rfl, rfl, rfl⟩ := h
              obtain ⟨z, w', h1, _, _, E', h2, h3, h4⟩ := fin hb
              unfold newSl at hns
              split at hns
              · cases hns
              · cases hns
              · simp only [Prod.mk.injEq, AV.msl.injEq] at hns; obtain ⟨⟨rfl, rfl, rfl, rfl⟩, rfl⟩ := hns
                exact .mk' (by simp only [execOp, ho]; exact run_v h1) h2 h3 h4
            · cases h
          · rename_i x1 V1 hne hns
            rcases h with h | h
            · simp only [OR.v.injEq] at h; obtain ⟨rfl, rfl, rfl⟩ := h
              obtain ⟨z, w', h1, ⟨E', h2, h3, h4⟩, ⟨E2, g2, g3, g4⟩, _⟩ := fin hb
              unfold newSl at hns
              split at hns
              · simp only [Prod.mk.injEq] at hns; obtain ⟨rfl, rfl⟩ := hns
                exact .mk' (by simp only [execOp, ho]; exact run_v h1) h2 h3 h4
              · simp only [Prod.mk.injEq] at hns; obtain ⟨rfl, rfl⟩ := hns
                exact .mk' (by simp only [execOp, ho]; exact run_v h1) g2 g3 g4
              · simp only [Prod.mk.injEq] at hns; obtain ⟨rfl, rfl⟩ := hns
                exact absurd rfl (hne _ _ _ _)
            · cases h
        · rcases h with h | h <;> cases h
      · rcases h with h | h <;> cases h
    · rcases h with h | h <;> cases h
  · rcases h with h | h <;> cases h

end
end Go.Sk
