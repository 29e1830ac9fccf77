/- Sk, part G: paths into values: what lies at a path, and what is put there. -/
import Derived.Test.YtlheciphihmomaaGreatDoorSkF
set_option linter.all false
namespace Go.Sk
open Go

theorem drop_take_drop_take {α : Type} (l : List α) (a s o z : Nat) (h : o + z ≤ s) : (((l.drop a).take s).drop o).take z = (l.drop (a + o)).take z := by
  rw [List.drop_take, List.take_take, List.drop_drop]
  congr 1; omega

/-! ### Closed data -/
theorem DsRel.get {Γ : Gam} : ∀ {l : List D} {cs : List Value}, DsRel Γ l cs → ∀ n, n < l.length →
    DRel Γ (lget l n) ((cs.drop (sumD l n)).take (lget l n).sz) ∧ sumD l n + (lget l n).sz ≤ cs.length
  | [], cs, h, n, hn => by simp at hn
  | x :: l, cs, h, n, hn => by
    simp only [DsRel] at h
    obtain ⟨a, b, rfl, ha, hb⟩ := h
    have hla := DRel.len x a ha
    cases n with
    | zero =>
      simp only [lget, sumD, List.drop_zero, List.length_append]
      rw [← hla, List.take_left]
      exact ⟨ha, by omega⟩
    | succ n =>
      simp only [lget, sumD]
      obtain ⟨h1, h2⟩ := DsRel.get hb n (by simpa using hn)
      rw [← hla]
      refine ⟨?_, by rw [List.length_append]; omega⟩
      rw [← List.drop_drop, List.drop_left]; exact h1

theorem sumD_uniform {sh : Sh} : ∀ {l : List D}, D.shsAll sh l → ∀ n, n ≤ l.length → sumD l n = n * sh.sz
  | _, _, 0, _ => by simp [sumD]
  | [], _, n + 1, h => by simp at h
  | x :: l, hl, n + 1, h => by
    simp only [sumD]
    rw [shD_sz, hl x (by simp), sumD_uniform (fun y hy => hl y (by simp [hy])) n (by simpa using h), Nat.succ_mul]; omega

theorem SqR.get {Γ : Gam} {q : Sq D} {cs : List Value} (h : SqR Γ q cs) (i : Nat) (hi : i < q.length) :
    DRel Γ (q.at i) ((cs.drop (i * q.st)).take q.st) ∧ (q.at i).sz = q.st ∧ i * q.st + q.st ≤ cs.length := by
  have hlen := SqR.len q cs h
  have hbound : i * q.st + q.st ≤ cs.length := by
    rw [hlen, ← Nat.succ_mul]; exact Nat.mul_le_mul_right _ hi
  cases q with
  | b l =>
    simp only [SqR] at h; subst h
    simp only [Sq.length] at hi
    refine ⟨?_, rfl, hbound⟩
    simp only [Sq.at, Sq.st, Nat.mul_one, DRel]
    rw [List.drop_eq_getElem_cons (by simpa using hi)]; simp [List.getD, hi]
  | s l =>
    simp only [SqR] at h; subst h
    simp only [Sq.length] at hi
    refine ⟨?_, rfl, hbound⟩
    simp only [Sq.at, Sq.st, Nat.mul_one, DRel]
    rw [List.drop_eq_getElem_cons (by simpa using hi)]; simp [List.getD, hi]
  | i k l =>
    simp only [SqR] at h; subst h
    simp only [Sq.length] at hi
    refine ⟨?_, rfl, hbound⟩
    simp only [Sq.at, Sq.st, Nat.mul_one, DRel]
    rw [List.drop_eq_getElem_cons (by simpa using hi)]; simp [List.getD, hi]
  | g st l =>
    simp only [SqR] at h
    simp only [Sq.length] at hi
    obtain ⟨h1, h2⟩ := h
    have hat : (Sq.g st l).at i = lget l i := by simp only [Sq.at]; rw [lget_eq]; rfl
    have hsz : (lget l i).sz = st.sz := by rw [shD_sz, h2 _ (by have := lget_some (l := l) hi; exact List.mem_of_getElem? this)]
    obtain ⟨h3, h4⟩ := DsRel.get h1 i hi
    rw [sumD_uniform h2 i (by omega), hsz] at h3
    rw [hat]
    exact ⟨h3, hsz, hbound⟩

theorem Sq.get_at (A : Ari) (q : Sq D) (i : Int) : q.get A i = q.at i.toNat := by
  cases q <;> simp only [Sq.get, Sq.at, A.get_eq, A.getb_eq]

theorem getPD_ok {Γ : Gam} (A : Ari) : ∀ (p : List PE) (x : D) (cs : List Value) (off : Nat), DRel Γ x cs → offD p x = some off →
    DRel Γ (getPD A p x) ((cs.drop off).take (getPD A p x).sz) ∧ off + (getPD A p x).sz ≤ cs.length
  | [], x, cs, off, h, ho => by
    simp only [offD, Option.some.injEq] at ho; subst ho
    have := DRel.len x cs h
    simp only [getPD, List.drop_zero]
    rw [← this, List.take_length]; exact ⟨h, by omega⟩
  | .f n :: p, x, cs, off, h, ho => by
    cases x <;> simp only [offD] at ho <;> first | (cases ho; done) | skip
    rename_i l
    split at ho
    · rename_i hn
      simp only [Option.map_eq_some_iff] at ho
      obtain ⟨o, ho, rfl⟩ := ho
      simp only [DRel] at h
      obtain ⟨h1, h2⟩ := DsRel.get h n hn
      obtain ⟨h3, h4⟩ := getPD_ok A p (lget l n) _ o h1 ho
      simp only [getPD]
      have hl : ((cs.drop (sumD l n)).take (lget l n).sz).length = (lget l n).sz := by simp; omega
      rw [hl] at h4
      rw [drop_take_drop_take _ _ _ _ _ h4] at h3
      exact ⟨h3, by omega⟩
    · cases ho
  | .i j :: p, x, cs, off, h, ho => by
    cases x <;> simp only [offD] at ho <;> first | (cases ho; done) | skip
    rename_i m q
    split at ho
    · rename_i hj
      simp only [Option.map_eq_some_iff] at ho
      obtain ⟨o, ho, rfl⟩ := ho
      simp only [DRel] at h
      have hlt : j.toNat < q.length := by rw [h.2]; omega
      obtain ⟨h1, h2, h5⟩ := SqR.get h.1 j.toNat hlt
      obtain ⟨h3, h4⟩ := getPD_ok A p (q.at j.toNat) _ o h1 ho
      simp only [getPD, Sq.get_at]
      have hl : ((cs.drop (j.toNat * q.st)).take q.st).length = q.st := by simp; omega
      rw [hl] at h4
      rw [drop_take_drop_take _ _ _ _ _ h4] at h3
      exact ⟨h3, by omega⟩
    · cases ho

/-! ### Values of cells -/
mutual
theorem R.len {X : Tb} {E : Env} : ∀ (v : AV) (cs : List Value), R X E v cs → cs.length = v.sz
  | .d x, cs, h => by simp only [R] at h; simpa only [AV.sz] using DRel.len x cs h
  | .ptr r p, cs, h => by simp only [R] at h; obtain ⟨_, _, _, rfl, _⟩ := h; rfl
  | .ep r g i p, cs, h => by simp only [R] at h; obtain ⟨_, _, _, _, _, _, rfl, _⟩ := h; rfl
  | .pd x p, cs, h => by simp only [R] at h; obtain ⟨_, _, _, _, rfl, _⟩ := h; rfl
  | .agg l, cs, h => by simp only [R] at h; simpa only [AV.sz] using Rs_.len l cs h
  | .tup l, cs, h => by simp only [R] at h; obtain ⟨_, rfl, _⟩ := h; rfl
  | .slt q r e, cs, h => by simp only [R] at h; obtain ⟨_, _, _, _, rfl, _⟩ := h; rfl
  | .msl r g o l, cs, h => by simp only [R] at h; obtain ⟨_, _, _, _, _, _, rfl, _⟩ := h; rfl
  | .asl r p lo hi, cs, h => by simp only [R] at h; obtain ⟨_, _, _, _, _, _, _, _, rfl, _⟩ := h; rfl
  | .map r, cs, h => by simp only [R] at h; obtain ⟨_, rfl, _⟩ := h; rfl
  | .fn f a c, cs, h => by simp only [R] at h; obtain ⟨_, _, rfl, _⟩ := h; rfl
  | .yield r, cs, h => by simp only [R] at h; obtain ⟨_, rfl, _⟩ := h; rfl
  | .ifc t v, cs, h => by simp only [R] at h; obtain ⟨_, _, rfl, _⟩ := h; rfl
  | .gd _ _, cs, h => by simp only [R] at h; obtain ⟨_, rfl⟩ := h; rfl
  | .gl _, cs, h => by simp only [R] at h; subst h; rfl
  | .undef, cs, h => by simp only [R] at h; obtain ⟨_, rfl⟩ := h; rfl
theorem Rs_.len {X : Tb} {E : Env} : ∀ (l : List AV) (cs : List Value), Rs_ X E l cs → cs.length = AV.szs l
  | [], cs, h => by simp only [Rs_] at h; subst h; rfl
  | x :: l, cs, h => by
    simp only [Rs_] at h
    obtain ⟨a, b, rfl, ha, hb⟩ := h
    rw [List.length_append, R.len x a ha, Rs_.len l b hb]; rfl
end

theorem Rs_.get {X : Tb} {E : Env} : ∀ {l : List AV} {cs : List Value}, Rs_ X E l cs → ∀ n, n < l.length →
    R X E (lget l n) ((cs.drop (sumAV l n)).take (lget l n).sz) ∧ sumAV l n + (lget l n).sz ≤ cs.length
  | [], cs, h, n, hn => by simp at hn
  | x :: l, cs, h, n, hn => by
    simp only [Rs_] at h
    obtain ⟨a, b, rfl, ha, hb⟩ := h
    have hla := R.len x a ha
    cases n with
    | zero =>
      simp only [lget, sumAV, List.drop_zero, List.length_append]
      rw [← hla, List.take_left]
      exact ⟨ha, by omega⟩
    | succ n =>
      simp only [lget, sumAV]
      obtain ⟨h1, h2⟩ := Rs_.get hb n (by simpa using hn)
      rw [← hla]
      refine ⟨?_, by rw [List.length_append]; omega⟩
      rw [← List.drop_drop, List.drop_left]; exact h1

theorem sumAV_eq : ∀ (l : List D) (n : Nat), sumAV (l.map .d) n = sumD l n
  | _, 0 => by simp [sumAV, sumD]
  | [], n + 1 => rfl
  | x :: l, n + 1 => by simp only [List.map_cons, sumAV, sumD, sumAV_eq l n]; rfl

theorem Rs_d {X : Tb} {E : Env} : ∀ (l : List D) (cs : List Value), Rs_ X E (l.map .d) cs ↔ DsRel E.Γ l cs
  | [], cs => by simp only [List.map_nil, Rs_, DsRel]
  | x :: l, cs => by simp only [List.map_cons, Rs_, DsRel, R, Rs_d l]

/-! ### Shapes -/
theorem lget_map {α β : Type} [Inhabited α] [Inhabited β] (f : α → β) (l : List α) (n : Nat) (h : n < l.length) : lget (l.map f) n = f (lget l n) := by
  rw [lget_eq, lget_eq]; simp [List.getD, h]

theorem shqs_get {X : Tb} : ∀ (l : List AV) (n : Nat) (fs : List Nat), shqs (shAs l) (shTs X n fs) = true →
    l.length = fs.length ∧ ∀ i, i < l.length → Fit X (lget fs i) (lget l i)
  | [], 0, fs, h => by simp [shAs, shTs, shqs] at h
  | [], n + 1, [], h => by simp
  | [], n + 1, t :: ts, h => by simp [shAs, shTs, shqs] at h
  | v :: l, 0, fs, h => by
    simp only [shAs, shTs, shqs, Bool.and_eq_true] at h
    exact absurd h.1 (by cases shA v <;> simp [shq])
  | v :: l, n + 1, [], h => by simp [shAs, shTs, shqs] at h
  | v :: l, n + 1, t :: ts, h => by
    simp only [shAs, shTs, shqs, Bool.and_eq_true] at h
    obtain ⟨h1, h2⟩ := shqs_get l n ts h.2
    refine ⟨by simp [h1], fun i hi => ?_⟩
    cases i with
    | zero => exact ⟨n, h.1⟩
    | succ i => exact h2 i (by simpa using hi)

theorem shDs_eq : ∀ (l : List D), shAs (l.map .d) = shDs l
  | [] => rfl
  | x :: l => by simp only [List.map_cons, shAs, shDs, shA, shDs_eq l]

theorem Fit.agg {X : Tb} {t : Nat} {l : List AV} (h : Fit X t (.agg l)) : ∃ sz fs, X.td t = .strct sz fs ∧ l.length = fs.length ∧ ∀ i, i < l.length → Fit X (lget fs i) (lget l i) := by
  obtain ⟨n, h⟩ := h
  cases n with
  | zero => simp [shA, shT, shq] at h
  | succ n =>
    simp only [shA, shT] at h
    split at h
    · rename_i sz fs htd
      simp only [shq] at h
      obtain ⟨h1, h2⟩ := shqs_get l n fs h
      exact ⟨sz, fs, htd, h1, h2⟩
    · simp [shq] at h
    · simp [shq] at h

theorem Fit.dagg {X : Tb} {t : Nat} {l : List D} (h : Fit X t (.d (.agg l))) : ∃ sz fs, X.td t = .strct sz fs ∧ l.length = fs.length ∧ ∀ i, i < l.length → Fit X (lget fs i) (.d (lget l i)) := by
  have h' : Fit X t (.agg (l.map .d)) := by
    obtain ⟨n, h⟩ := h
    exact ⟨n, by simpa only [shA, shD, shDs_eq] using h⟩
  obtain ⟨sz, fs, h1, h2, h3⟩ := h'.agg
  refine ⟨sz, fs, h1, by simpa using h2, fun i hi => ?_⟩
  have := h3 i (by simpa using hi)
  rwa [lget_map _ _ _ hi] at this

theorem Fit.darr {X : Tb} {t m : Nat} {q : Sq D} (h : Fit X t (.d (.arr m q))) : ∃ sz e, X.td t = .arr sz m e ∧ q.st = (X.td e).size ∧ (!q.isG) = scK (X.td e) := by
  obtain ⟨n, h⟩ := h
  cases n with
  | zero => simp [shA, shD, shT, shq] at h
  | succ n =>
    simp only [shA, shD, shT] at h
    split at h
    · simp [shq] at h
    · rename_i sz m' e htd
      simp only [shq, Bool.and_eq_true, beq_iff_eq] at h
      obtain ⟨⟨rfl, h2⟩, h3⟩ := h
      exact ⟨sz, e, htd, h2, h3⟩
    · simp [shq] at h

/-- A shape that is no struct and no array. -/
theorem Fit.scalar {X : Tb} {t : Nat} {v : AV} (h : Fit X t v) (hv : shA v = .c) : (X.td t).isAgg = false := by
  obtain ⟨n, h⟩ := h
  rw [hv] at h
  cases n with
  | zero => simp [shT, shq] at h
  | succ n =>
    simp only [shT] at h
    split at h
    · simp [shq] at h
    · simp [shq] at h
    · rename_i h1 h2
      cases hd : X.td t <;> simp_all [TD.isAgg]

theorem size_scalar {d : TD} (h : d.isAgg = false) : d.size = 1 := by cases d <;> simp_all [TD.isAgg, TD.size]

theorem sumSz_all {X : Tb} : ∀ (l : List AV) (fs : List Nat), l.length = fs.length → (∀ i, i < l.length → (lget l i).sz = (X.td (lget fs i)).size) → ∀ n, n ≤ l.length → sumAV l n = sumSz X fs n
  | _, _, _, _, 0, _ => by simp [sumAV, sumSz]
  | [], _, _, _, n + 1, h => by simp at h
  | v :: l, [], h, _, _, _ => by simp at h
  | v :: l, t :: ts, h, hs, n + 1, hn => by
    simp only [sumAV, sumSz]
    have h0 := hs 0 (by simp)
    simp only [lget] at h0
    rw [h0, sumSz_all l ts (by simpa using h) (fun i hi => hs (i + 1) (by simpa using hi)) n (by simpa using hn)]

theorem szs_sum : ∀ (l : List AV), AV.szs l = sumAV l l.length
  | [] => rfl
  | v :: l => by simp only [AV.szs, List.length_cons, sumAV, szs_sum l]

theorem shA_scalar {v : AV} (h : v.isAgg = false) : shA v = .c := by
  cases v <;> simp_all [shA, AV.isAgg]
  rename_i x; cases x <;> simp_all [shD, D.isAgg]

mutual
theorem Fit.szA {X : Tb} {P : Program} (hX : TbOK X P) : ∀ (v : AV) (t : Nat), Fit X t v → v.sz = (X.td t).size ∧ v.isAgg = (X.td t).isAgg
  | .agg l, t, h => by
    obtain ⟨sz, fs, htd, hl, hf⟩ := h.agg
    refine ⟨?_, by rw [htd]; rfl⟩
    obtain ⟨u, hu, f, _, _, _, hsz⟩ := (hX.known htd (by simp) (by simp)).und
    have := sumSz_all (X := X) l fs hl (fun i hi => Fit.szs hX l fs hf i hi) l.length (Nat.le_refl _)
    simp only [AV.sz, szs_sum, htd, TD.size, hsz]; rw [this, hl]
  | .d x, t, h => Fit.szD hX x t h
  | .ptr _ _, t, h => by have := h.scalar rfl; rw [size_scalar this, this]; exact ⟨rfl, rfl⟩
  | .ep _ _ _ _, t, h => by have := h.scalar rfl; rw [size_scalar this, this]; exact ⟨rfl, rfl⟩
  | .pd _ _, t, h => by have := h.scalar rfl; rw [size_scalar this, this]; exact ⟨rfl, rfl⟩
  | .tup _, t, h => by have := h.scalar rfl; rw [size_scalar this, this]; exact ⟨rfl, rfl⟩
  | .slt _ _ _, t, h => by have := h.scalar rfl; rw [size_scalar this, this]; exact ⟨rfl, rfl⟩
  | .msl _ _ _ _, t, h => by have := h.scalar rfl; rw [size_scalar this, this]; exact ⟨rfl, rfl⟩
  | .asl _ _ _ _, t, h => by have := h.scalar rfl; rw [size_scalar this, this]; exact ⟨rfl, rfl⟩
  | .map _, t, h => by have := h.scalar rfl; rw [size_scalar this, this]; exact ⟨rfl, rfl⟩
  | .fn _ _ _, t, h => by have := h.scalar rfl; rw [size_scalar this, this]; exact ⟨rfl, rfl⟩
  | .yield _, t, h => by have := h.scalar rfl; rw [size_scalar this, this]; exact ⟨rfl, rfl⟩
  | .ifc _ _, t, h => by have := h.scalar rfl; rw [size_scalar this, this]; exact ⟨rfl, rfl⟩
  | .gl _, t, h => by have := h.scalar rfl; rw [size_scalar this, this]; exact ⟨rfl, rfl⟩
  | .gd _ _, t, h => by have := h.scalar rfl; rw [size_scalar this, this]; exact ⟨rfl, rfl⟩
  | .undef, t, h => by have := h.scalar rfl; rw [size_scalar this, this]; exact ⟨rfl, rfl⟩
theorem Fit.szs {X : Tb} {P : Program} (hX : TbOK X P) : ∀ (l : List AV) (fs : List Nat), (∀ i, i < l.length → Fit X (lget fs i) (lget l i)) → ∀ i, i < l.length → (lget l i).sz = (X.td (lget fs i)).size
  | [], _, _, i, hi => by simp at hi
  | v :: l, fs, hf, 0, _ => (Fit.szA hX v _ (hf 0 (by simp))).1
  | v :: l, fs, hf, i + 1, hi => by
    have := Fit.szs hX l fs.tail (fun j hj => by
      have := hf (j + 1) (by simpa using hj)
      cases fs with
      | nil => simpa [lget] using this
      | cons a b => exact this) i (by simpa using hi)
    cases fs with
    | nil => simpa [lget] using this
    | cons a b => exact this
theorem Fit.szD {X : Tb} {P : Program} (hX : TbOK X P) : ∀ (x : D) (t : Nat), Fit X t (.d x) → x.sz = (X.td t).size ∧ x.isAgg = (X.td t).isAgg
  | .agg l, t, h => by
    obtain ⟨sz, fs, htd, hl, hf⟩ := h.dagg
    refine ⟨?_, by rw [htd]; rfl⟩
    obtain ⟨u, hu, f, _, _, _, hsz⟩ := (hX.known htd (by simp) (by simp)).und
    have := sumSz_all (X := X) (l.map .d) fs (by simpa using hl) (fun i hi => by
      rw [lget_map _ _ _ (by simpa using hi)]; exact Fit.szDs hX l fs hf i (by simpa using hi)) (l.map AV.d).length (Nat.le_refl _)
    have h2 : D.szs l = AV.szs (l.map .d) := by
      clear hf hl this h
      induction l with
      | nil => rfl
      | cons x l ih => simp only [D.szs, List.map_cons, AV.szs, ih]; rfl
    simp only [D.sz, h2, szs_sum, htd, TD.size, hsz]; rw [this, List.length_map, hl]
  | .arr m q, t, h => by
    obtain ⟨sz, e, htd, hst, _⟩ := h.darr
    obtain ⟨u, hu, _, hsz⟩ := (hX.known htd (by simp) (by simp)).und
    rw [htd]; exact ⟨by simp only [D.sz, TD.size, hsz, hst], rfl⟩
  | .bool _, t, h => by have := h.scalar rfl; rw [size_scalar this, this]; exact ⟨rfl, rfl⟩
  | .int _ _, t, h => by have := h.scalar rfl; rw [size_scalar this, this]; exact ⟨rfl, rfl⟩
  | .str _, t, h => by have := h.scalar rfl; rw [size_scalar this, this]; exact ⟨rfl, rfl⟩
  | .sl _, t, h => by have := h.scalar rfl; rw [size_scalar this, this]; exact ⟨rfl, rfl⟩
  | .slx _, t, h => by have := h.scalar rfl; rw [size_scalar this, this]; exact ⟨rfl, rfl⟩
  | .nils, t, h => by have := h.scalar rfl; rw [size_scalar this, this]; exact ⟨rfl, rfl⟩
  | .nilp, t, h => by have := h.scalar rfl; rw [size_scalar this, this]; exact ⟨rfl, rfl⟩
  | .nilm, t, h => by have := h.scalar rfl; rw [size_scalar this, this]; exact ⟨rfl, rfl⟩
  | .nilf, t, h => by have := h.scalar rfl; rw [size_scalar this, this]; exact ⟨rfl, rfl⟩
  | .nili, t, h => by have := h.scalar rfl; rw [size_scalar this, this]; exact ⟨rfl, rfl⟩
  | .ifc _ _, t, h => by have := h.scalar rfl; rw [size_scalar this, this]; exact ⟨rfl, rfl⟩
  | .junk, t, h => by have := h.scalar rfl; rw [size_scalar this, this]; exact ⟨rfl, rfl⟩
theorem Fit.szDs {X : Tb} {P : Program} (hX : TbOK X P) : ∀ (l : List D) (fs : List Nat), (∀ i, i < l.length → Fit X (lget fs i) (.d (lget l i))) → ∀ i, i < l.length → (lget l i).sz = (X.td (lget fs i)).size
  | [], _, _, i, hi => by simp at hi
  | v :: l, fs, hf, 0, _ => (Fit.szD hX v _ (hf 0 (by simp))).1
  | v :: l, fs, hf, i + 1, hi => by
    have := Fit.szDs hX l fs.tail (fun j hj => by
      have := hf (j + 1) (by simpa using hj)
      cases fs with
      | nil => simpa [lget] using this
      | cons a b => exact this) i (by simpa using hi)
    cases fs with
    | nil => simpa [lget] using this
    | cons a b => exact this
end

end Go.Sk
