/- Sk, part R: the lesser operations. -/
import Derived.Test.YtlheciphihmomaaGreatDoorSkQ
import Derived.Laws.IdiomStrings
set_option linter.all false
namespace Go.Sk
open Go

section
variable {X : Tb} {P : Program} {E : Env} {V : List AO} {w w' : World} {A : Ari} {fr : List AV} {a : Act}

theorem alloc_ok (hX : TbOK X P) (hi : Inv X P E V w) {t : Nat} (hk : kn X t = true) (hf : fits X t (.d (zeroD X depth t)) = true) :
    ∃ z w' E', (Instr.alloc t true (.tuple #[])).run P w = .ok z w' ∧ RV0 X E' (.ptr (llen V) []) z ∧ Inv X P E' (V ++ [.blk t (expandD (zeroD X depth t))]) w' ∧ Ext E w E' w' := by
  obtain ⟨hn1, hn2⟩ := kn_td hk
  obtain ⟨z, cs, hz, hd, hv, hlen⟩ := run_zero (w := w) hX rfl hn1 hn2
  have hd' : DRel E.Γ (zeroD X depth t) cs := DRel.mono (fun _ _ _ h => by cases h) _ _ hd
  have hr : R X E (.d (zeroD X depth t)) cs := by simp only [R]; exact hd'
  obtain ⟨w', E', h1, h2, h3, rfl⟩ := newVar_ok (v' := expandD (zeroD X depth t)) hi hr (VOf_cells hv (DRel.one _ _ hd')) (fits_Fit hf)
    (fun E cs => (expandD_ok _ cs).1.trans (by simp only [R])) (by rw [(expandD_ok (X := X) (E := E) _ cs).2]; rfl)
  exact ⟨_, w', _, by simp [Instr.alloc, hz, h1], new_ptr hi, h2, h3⟩

theorem box_ok (hi : Inv X P E V w) {t : Nat} {v : AV} {y : Value} (hf : fits X t v = true) (hs : solid v = true) (hv : RV0 X E v y) :
    ∃ z w' E', (Instr.box t y).run P w = .ok z w' ∧ RV0 X E' (.ptr (llen V) []) z ∧ Inv X P E' (V ++ [.blk t (expand v)]) w' ∧ Ext E w E' w' := by
  obtain ⟨cs, hr, hc⟩ := hv
  obtain ⟨w', E', h1, h2, h3, rfl⟩ := newVar_ok (v' := expand v) hi hr (VOf_cells hc (R.one _ _ hr hs)) (fits_Fit hf)
    (fun E cs => (expand_ok _ cs).1) (expand_ok (X := X) (E := E) v cs).2
  exact ⟨_, w', _, by simp [Instr.box, h1], new_ptr hi, h2, h3⟩

theorem run_not {b : Bool} : (Op.unary .not (.bool b)).run P w = .ok (.bool (A.not b)) w := by simp [Op.unary, A.not_eq]
theorem run_neg {k : IntKind} {n : Int} : (Op.unary .neg (.int k n)).run P w = .ok (.int k (A.ar .sub k 0 n)) w := by
  simp only [Op.unary, A.ar_eq, arStd]
  simp [Op.intArith]
theorem run_xor {k : IntKind} {n : Int} : (Op.unary .xor (.int k n)).run P w = .ok (.int k (A.ar .xor k (if k.signed then -1 else k.max) n)) w := by
  simp only [Op.unary, A.ar_eq, arStd]
  simp [Op.intBits]

theorem mkIfc_ok {t : Nat} {v : AV} {y : Value} (hv : RV0 X E v y) : RV0 X E (mkIfc t v) (.iface t y) := by
  cases v <;> simp only [mkIfc] <;> first | exact rv_difc.2 ⟨_, rfl, hv⟩ | exact rv_ifc.2 ⟨_, rfl, hv⟩

theorem not_ifc (hX : TbOK X P) {t : Nat} (ht : ∀ e, X.td t ≠ .ifc e) (hk : kn X t = true) : ∃ u, P.underlying t = some u ∧ ∀ ms, u ≠ .interface ms := by
  obtain ⟨hn1, hn2⟩ := kn_td hk
  obtain ⟨u, hu, hd⟩ := (hX.known rfl hn1 hn2).und
  refine ⟨u, hu, ?_⟩
  rintro ms rfl
  cases hq : X.td t <;> simp only [hq, DescOK] at hd <;> first | (cases hd; done) | skip
  all_goals first | exact ht _ hq | exact hn2 hq | (obtain ⟨_, h, _⟩ := hd; cases h; done) | (obtain ⟨_, _, _, h⟩ := hd; cases h; done) | (cases hd.1; done)

theorem makeInterface_ok (hX : TbOK X P) {t : Nat} {v : AV} {y : Value} (ht : ∀ e, X.td t ≠ .ifc e) (hk : kn X t = true) (hv : RV0 X E v y) :
    ∃ z, (Instr.makeInterface t y).run P w = .ok z w ∧ RV0 X E (mkIfc t v) z := by
  obtain ⟨u, hu, hnot⟩ := not_ifc hX ht hk
  refine ⟨_, ?_, mkIfc_ok hv⟩
  unfold Instr.makeInterface
  rw [step_und _ hu]
  cases u <;> first | exact absurd rfl (hnot _) | simp

theorem extract_ok {l : List AV} {i : Nat} {y : Value} (hl : Nat.blt i (llen l) = true) (hv : RV0 X E (.tup l) y) : ∃ z, (Instr.extract y i).run P w = .ok z w ∧ RV0 X E (lget l i) z := by
  obtain ⟨ys, rfl, hr⟩ := rv_tup.1 hv
  rw [Nat.blt_eq, llen_eq] at hl
  obtain ⟨z, hz, hzv⟩ := hr.get i hl
  exact ⟨z, by simp [Instr.extract, hz], hzv⟩

theorem lenOf_ok (hi : Inv X P E V w) {v : AV} {n : Int} {y : Value} (h : lenOf A V v = some n) (hv : RV0 X E v y) : ∃ a k c, y = .slice a k c ∧ (k : Int) = n := by
  unfold lenOf at h
  split at h
  · simp only [Option.some.injEq] at h; subst h
    obtain ⟨ds, h1, h2⟩ := rv_sl.1 hv
    obtain ⟨a, c, rfl, _⟩ := slAt_shape h2
    exact ⟨_, _, _, rfl, by rw [Sq.len_eq]⟩
  · simp only [Option.some.injEq] at h; subst h
    obtain ⟨ds, h1, h2, _⟩ := rv_slx.1 hv
    obtain ⟨a, c, rfl, _⟩ := slAt_shape h2
    exact ⟨_, _, _, rfl, by rw [Sq.len_eq]⟩
  · simp only [Option.some.injEq] at h; subst h
    rw [rv_nils] at hv; exact ⟨_, _, _, hv, rfl⟩
  · simp only [Option.some.injEq] at h; subst h
    obtain ⟨ds, τ, c, h1, h2, _⟩ := rv_slt.1 hv
    obtain ⟨a, c, rfl, _⟩ := slAt_shape h2
    exact ⟨_, _, _, rfl, by rw [Sq.len_eq]⟩
  · rename_i r g off len
    split at h
    · rename_i e q g' hV
      split at h
      · rename_i hg
        rw [beq_iff_eq] at hg; subst hg
        simp only [Option.some.injEq] at h; subst h
        rw [rv_of_scalar rfl] at hv; simp only [R] at hv
        obtain ⟨b, e0, g0, n, cap, y', hy0, hone, hg, hle, hgo⟩ := hv
        simp only [List.cons.injEq, and_true] at hy0; subst hy0
        obtain ⟨b', cap', hb, hcap, hst0, cs, ds, hc, hr, hlen, htake⟩ := hi.arr hV hg
        simp only [Gh.arr.injEq] at hb; obtain ⟨rfl, rfl, rfl, rfl, rfl⟩ := hb
        obtain ⟨h0, h1, h2, bo, rfl, hbo⟩ := hgo rfl
        exact ⟨_, _, _, rfl, by omega⟩
      · cases h
    · cases h
  · simp only [Option.some.injEq] at h; subst h
    rw [rv_of_scalar rfl] at hv; simp only [R] at hv
    obtain ⟨b, t, o, u, sz, n, e, bo, h1, _, _, _, _, _, h2, _⟩ := hv
    simp only [List.cons.injEq, and_true] at h1; subst h1
    exact ⟨_, _, _, rfl, by rw [A.minus_eq]; omega⟩
  · cases h

theorem foldMM_ok {mx : Bool} {k : IntKind} : ∀ {l : List AV} {n m : Int} {ys : List Value}, foldMM A mx k l n = some m → RVs X E l ys →
    (List.foldlM (if mx then Builtin.max2 else Builtin.min2) (.int k n) ys : Sem Value).run P w = .ok (.int k m) w
  | [], n, m, ys, h, hr => by
    simp only [foldMM, Option.some.injEq] at h; subst h
    simp only [RVs] at hr; subst hr; simp
  | x :: l, n, m, ys, h, hr => by
    unfold foldMM at h
    split at h
    · rename_i hx; cases hx
    · rename_i k' j l' heq
      simp only [List.cons.injEq] at heq; obtain ⟨rfl, rfl⟩ := heq
      obtain ⟨y, r, rfl, hy, hr2⟩ := RVs.cons_iff.1 hr
      rw [rv_int] at hy; subst hy
      have ih := fun (n : Int) (h : foldMM A mx k l n = some m) => foldMM_ok h hr2
      cases mx
      · simp only [Bool.false_eq_true, if_false, List.foldlM_cons] at ih h ⊢
        have e : ∀ n : Int, (if j < n then j else n) = A.mn n j := fun n => by rw [A.mn_eq]
        simp only [Builtin.min2, Sem.run_bind, Sem.run_pure, Result.andThen, e]
        exact ih _ h
      · simp only [if_true, List.foldlM_cons] at ih h ⊢
        have e : ∀ n : Int, (if j > n then j else n) = A.mx n j := fun n => by rw [A.mx_eq]
        simp only [Builtin.max2, Sem.run_bind, Sem.run_pure, Result.andThen, e]
        exact ih _ h
    · cases h

theorem bytesToString_ok {l : List UInt8} {y : Value} (hr : Reads P w y 1 l.length (l.map fun b => Value.int .u8 (b.toNat : Int))) (hs : ∀ s, y ≠ .string s) :
    (Conv.bytesToString y).run P w = .ok (.string ⟨l.toArray⟩) w := by
  obtain ⟨h1, h2⟩ := hr
  replace h2 := h2 l.length (Nat.le_refl _)
  simp only [Nat.mul_one] at h2
  rw [List.take_of_length_le (by simp)] at h2
  unfold Builtin.lenOf at h1
  split at h1
  · rename_i a n c
    simp only [Sem.run_pure, Result.ok.injEq, and_true] at h1; subst h1
    cases a with
    | none =>
      simp only [Builtin.firstCells, Sem.run_pure, Result.ok.injEq, and_true] at h2
      have : l = [] := by
        have := congrArg Array.size h2; simp at this; exact List.eq_nil_of_length_eq_zero this.symm
      subst this; simp [Conv.bytesToString]; rfl
    | some a =>
      simp only [Builtin.firstCells, Nat.mul_one] at h2
      rw [show (l.map fun b => Value.int .u8 (b.toNat : Int)) = (l.map fun b => (b.toNat : Int)).map (Value.int .u8) by simp] at h2
      rw [run_bytesToString w a _ c _ h2, foldl_push_byteCells]
      have he0 : ByteArray.empty.data = #[] := rfl
      rw [he0]; simp
  · rename_i s; exact absurd rfl (hs s)
  · simp [stuck] at h1

end
end Go.Sk
