/- Sk, part I: sequences set, joined, cut; values put at paths. -/
import Derived.Test.YtlheciphihmomaaGreatDoorSkH
set_option linter.all false
namespace Go.Sk
open Go

/-- The kind of a sequence's elements. -/
def Sq.kd {α : Type} : Sq α → Nat × IntKind × Sh
  | .b _ => (0, .u8, .x)
  | .s _ => (1, .u8, .x)
  | .i k _ => (2, k, .x)
  | .g sh _ => (3, .u8, sh)

theorem Sq.kd_st {α : Type} {q m : Sq α} (h : q.kd = m.kd) : q.st = m.st := by cases q <;> cases m <;> simp_all [Sq.kd, Sq.st]
theorem Sq.kd_isG {α : Type} {q m : Sq α} (h : q.kd = m.kd) : q.isG = m.isG := by cases q <;> cases m <;> simp_all [Sq.kd, Sq.isG]
theorem Sq.kd_ok {X : Tb} {e : Nat} {q m : Sq D} (h : q.kd = m.kd) (hq : stOK X e q = true) : stOK X e m = true := by
  cases q <;> cases m <;> simp_all [Sq.kd, stOK]

theorem DsRel.append {Γ : Gam} : ∀ {l m : List D} {cs ds : List Value}, DsRel Γ l cs → DsRel Γ m ds → DsRel Γ (l ++ m) (cs ++ ds)
  | [], m, cs, ds, h, h' => by simp only [DsRel] at h; subst h; simpa using h'
  | x :: l, m, cs, ds, h, h' => by
    simp only [DsRel] at h
    obtain ⟨a, b, rfl, ha, hb⟩ := h
    simp only [List.cons_append, DsRel]
    exact ⟨a, b ++ ds, by simp, ha, DsRel.append hb h'⟩

theorem DsRel.split {Γ : Gam} : ∀ {l : List D} {cs : List Value}, DsRel Γ l cs → ∀ n, n ≤ l.length →
    DsRel Γ (l.take n) (cs.take (sumD l n)) ∧ DsRel Γ (l.drop n) (cs.drop (sumD l n)) ∧ sumD l n ≤ cs.length
  | l, cs, h, 0, _ => by simp only [sumD, List.take_zero, List.drop_zero]; exact ⟨by simp only [DsRel], h, Nat.zero_le _⟩
  | [], cs, h, n + 1, hn => by simp at hn
  | x :: l, cs, h, n + 1, hn => by
    simp only [DsRel] at h
    obtain ⟨a, b, rfl, ha, hb⟩ := h
    have hla := DRel.len x a ha
    obtain ⟨h1, h2, h3⟩ := DsRel.split hb n (by simpa using hn)
    simp only [sumD, List.take_succ_cons, List.drop_succ_cons, ← hla]
    refine ⟨?_, ?_, by rw [List.length_append]; omega⟩
    · simp only [DsRel]
      exact ⟨a, b.take (sumD l n), by rw [List.take_append, List.take_of_length_le (by omega)]; simp, ha, h1⟩
    · rw [← List.drop_drop, List.drop_left]; exact h2

theorem DsRel.set {Γ : Gam} : ∀ {l : List D} {cs vs : List Value} {v : D}, DsRel Γ l cs → ∀ n, n < l.length → DRel Γ v vs → v.sz = (lget l n).sz →
    DsRel Γ (l.set n v) (cs.take (sumD l n) ++ vs ++ cs.drop (sumD l n + vs.length))
  | [], cs, vs, v, h, n, hn, _, _ => by simp at hn
  | x :: l, cs, vs, v, h, 0, hn, hv, hs => by
    simp only [DsRel] at h
    obtain ⟨a, b, rfl, ha, hb⟩ := h
    have hla := DRel.len x a ha
    have hlv := DRel.len v vs hv
    simp only [lget] at hs
    simp only [sumD, List.take_zero, List.nil_append, Nat.zero_add, List.set_cons_zero, DsRel]
    exact ⟨vs, b, by rw [hlv, hs, ← hla, List.drop_left], hv, hb⟩
  | x :: l, cs, vs, v, h, n + 1, hn, hv, hs => by
    simp only [DsRel] at h
    obtain ⟨a, b, rfl, ha, hb⟩ := h
    have hla := DRel.len x a ha
    have ih := DsRel.set hb n (by simpa using hn) hv (by simpa only [lget] using hs)
    simp only [List.set_cons_succ, DsRel, sumD, ← hla]
    refine ⟨a, _, ?_, ha, ih⟩
    rw [Nat.add_assoc, ← List.drop_drop, List.drop_left, List.take_append, List.take_of_length_le (by omega)]; simp

theorem Rs_.set {X : Tb} {E : Env} : ∀ {l : List AV} {cs vs : List Value} {v : AV}, Rs_ X E l cs → ∀ n, n < l.length → R X E v vs → v.sz = (lget l n).sz →
    Rs_ X E (l.set n v) (cs.take (sumAV l n) ++ vs ++ cs.drop (sumAV l n + vs.length))
  | [], cs, vs, v, h, n, hn, _, _ => by simp at hn
  | x :: l, cs, vs, v, h, 0, hn, hv, hs => by
    simp only [Rs_] at h
    obtain ⟨a, b, rfl, ha, hb⟩ := h
    have hla := R.len x a ha
    have hlv := R.len v vs hv
    simp only [lget] at hs
    simp only [sumAV, List.take_zero, List.nil_append, Nat.zero_add, List.set_cons_zero, Rs_]
    exact ⟨vs, b, by rw [hlv, hs, ← hla, List.drop_left], hv, hb⟩
  | x :: l, cs, vs, v, h, n + 1, hn, hv, hs => by
    simp only [Rs_] at h
    obtain ⟨a, b, rfl, ha, hb⟩ := h
    have hla := R.len x a ha
    have ih := Rs_.set hb n (by simpa using hn) hv (by simpa only [lget] using hs)
    simp only [List.set_cons_succ, Rs_, sumAV, ← hla]
    refine ⟨a, _, ?_, ha, ih⟩
    rw [Nat.add_assoc, ← List.drop_drop, List.drop_left, List.take_append, List.take_of_length_le (by omega)]; simp

theorem map_set' {α β : Type} (f : α → β) (l : List α) (i : Nat) (x : α) (hi : i < l.length) :
    (l.set i x).map f = (l.map f).take i ++ [f x] ++ (l.map f).drop (i + 1) := by
  rw [List.map_set, List.set_eq_take_append_cons_drop, if_pos (by simpa using hi)]; simp

theorem Sq.set_ok {Γ : Gam} {A : Ari} {q q' : Sq D} {i : Int} {v : D} {o : List Bool} {cs vs : List Value} (h : q.set A i v = some (q', o)) (ho : Obl o)
    (hr : SqR Γ q cs) (hv : DRel Γ v vs) (h0 : 0 ≤ i) (h1 : i < (q.length : Int)) :
    SqR Γ q' (cs.take (i.toNat * q.st) ++ vs ++ cs.drop (i.toNat * q.st + vs.length)) ∧ q'.length = q.length ∧ q'.kd = q.kd := by
  have hlt : i.toNat < q.length := by omega
  cases q with
  | b l =>
    simp only [Sq.set] at h
    split at h
    · simp only [Option.some.injEq, Prod.mk.injEq] at h
      obtain ⟨rfl, rfl⟩ := h
      simp only [Obl, A.inb_eq, and_true] at ho
      simp only [DRel] at hv; subst hv
      simp only [SqR] at hr; subst hr
      simp only [Sq.length] at hlt
      refine ⟨?_, by simp [Sq.length, A.setb_eq], rfl⟩
      simp only [SqR, A.setb_eq, Sq.st, Nat.mul_one, List.length_singleton]
      rw [map_set' _ _ _ _ hlt]
      rename_i n
      have h256 : n.toNat < 256 := by omega
      have e : ((UInt8.ofNat n.toNat).toNat : Int) = n := by
        rw [UInt8.toNat_ofNat', Nat.mod_eq_of_lt h256]; omega
      rw [e]
    · cases h
  | s l =>
    simp only [Sq.set] at h
    split at h
    · simp only [Option.some.injEq, Prod.mk.injEq] at h
      obtain ⟨rfl, rfl⟩ := h
      simp only [DRel] at hv; subst hv
      simp only [SqR] at hr; subst hr
      simp only [Sq.length] at hlt
      refine ⟨?_, by simp [Sq.length, A.set_eq], rfl⟩
      simp only [SqR, A.set_eq, Sq.st, Nat.mul_one, List.length_singleton]
      rw [map_set' _ _ _ _ hlt]
    · cases h
  | i k l =>
    simp only [Sq.set] at h
    split at h
    · split at h
      · rename_i hk
        simp only [Option.some.injEq, Prod.mk.injEq] at h
        obtain ⟨rfl, rfl⟩ := h
        have := ikEq_eq hk; subst this
        simp only [DRel] at hv; subst hv
        simp only [SqR] at hr; subst hr
        simp only [Sq.length] at hlt
        refine ⟨?_, by simp [Sq.length, A.set_eq], rfl⟩
        simp only [SqR, A.set_eq, Sq.st, Nat.mul_one, List.length_singleton]
        rw [map_set' _ _ _ _ hlt]
      · cases h
    · cases h
  | g sh l =>
    simp only [Sq.set] at h
    split at h
    · rename_i hsh
      have hsh := shq_eq _ _ hsh
      simp only [Option.some.injEq, Prod.mk.injEq] at h
      obtain ⟨rfl, rfl⟩ := h
      simp only [SqR] at hr
      simp only [Sq.length] at hlt
      obtain ⟨h2, h3⟩ := hr
      have hget : shD (lget l i.toNat) = sh := h3 _ (List.mem_of_getElem? (lget_some hlt))
      refine ⟨?_, by simp [Sq.length, A.set_eq], rfl⟩
      simp only [SqR, A.set_eq, Sq.st]
      have := DsRel.set h2 i.toNat hlt hv (by rw [shD_sz, shD_sz, hsh, hget])
      rw [sumD_uniform h3 _ (by omega)] at this
      refine ⟨this, fun x hx => ?_⟩
      rcases List.mem_or_eq_of_mem_set hx with h4 | rfl
      · exact h3 x h4
      · exact hsh
    · cases h

theorem Sq.app_ok {Γ : Gam} {A : Ari} {q m q' : Sq D} {cs ds : List Value} (h : q.app A m = some q') (hr : SqR Γ q cs) (hm : SqR Γ m ds) :
    SqR Γ q' (cs ++ ds) ∧ q'.length = q.length + m.length ∧ q'.kd = q.kd ∧ m.kd = q.kd := by
  cases q <;> cases m <;> simp only [Sq.app] at h <;> first | (cases h; done) | skip
  · simp only [Option.some.injEq] at h; subst h
    simp only [SqR] at hr hm ⊢; subst hr hm
    exact ⟨by simp [A.app_eq], by simp [Sq.length, A.app_eq], rfl, rfl⟩
  · simp only [Option.some.injEq] at h; subst h
    simp only [SqR] at hr hm ⊢; subst hr hm
    exact ⟨by simp [A.app_eq], by simp [Sq.length, A.app_eq], rfl, rfl⟩
  · split at h
    · rename_i hk
      simp only [Option.some.injEq] at h; subst h
      have := ikEq_eq hk; subst this
      simp only [SqR] at hr hm ⊢; subst hr hm
      exact ⟨by simp [A.app_eq], by simp [Sq.length, A.app_eq], rfl, rfl⟩
    · cases h
  · split at h
    · rename_i hk
      simp only [Option.some.injEq] at h; subst h
      have := shq_eq _ _ hk; subst this
      simp only [SqR, A.app_eq] at hr hm ⊢
      exact ⟨⟨hr.1.append hm.1, fun x hx => (List.mem_append.1 hx).elim (hr.2 x) (hm.2 x)⟩, by simp [Sq.length], rfl, rfl⟩
    · cases h

theorem Sq.len_eq {α : Type} (A : Ari) (q : Sq α) : q.len A = (q.length : Int) := by cases q <;> simp [Sq.len, Sq.length, A.len_eq]

theorem Sq.cut_ok {Γ : Gam} {A : Ari} {q : Sq D} {lo hi : Int} {cs : List Value} (hr : SqR Γ q cs) (h0 : 0 ≤ lo) (h1 : lo ≤ hi) (h2 : hi ≤ (q.length : Int)) :
    SqR Γ (q.cut A lo hi) ((cs.take (hi.toNat * q.st)).drop (lo.toNat * q.st)) ∧ (q.cut A lo hi).length = (hi - lo).toNat ∧ (q.cut A lo hi).kd = q.kd := by
  cases q with
  | b l =>
    simp only [SqR, Sq.cut, Sq.length, A.cut_eq, Sq.st, Nat.mul_one] at hr h2 ⊢; subst hr
    exact ⟨by simp [List.map_drop, List.map_take], by simp; omega, rfl⟩
  | s l =>
    simp only [SqR, Sq.cut, Sq.length, A.cut_eq, Sq.st, Nat.mul_one] at hr h2 ⊢; subst hr
    exact ⟨by simp [List.map_drop, List.map_take], by simp; omega, rfl⟩
  | i k l =>
    simp only [SqR, Sq.cut, Sq.length, A.cut_eq, Sq.st, Nat.mul_one] at hr h2 ⊢; subst hr
    exact ⟨by simp [List.map_drop, List.map_take], by simp; omega, rfl⟩
  | g sh l =>
    simp only [SqR, Sq.cut, Sq.length, A.cut_eq, Sq.st] at hr h2 ⊢
    obtain ⟨h3, h4⟩ := hr
    obtain ⟨h5, _, _⟩ := h3.split hi.toNat (by omega)
    rw [sumD_uniform h4 _ (by omega)] at h5
    have h6 : D.shsAll sh (l.take hi.toNat) := fun x hx => h4 x (List.mem_of_mem_take hx)
    obtain ⟨_, h7, _⟩ := h5.split lo.toNat (by simp; omega)
    rw [sumD_uniform h6 _ (by simp; omega)] at h7
    exact ⟨⟨h7, fun x hx => h6 x (List.mem_of_mem_drop hx)⟩, by simp; omega, rfl⟩

/-! ### Putting at a path -/
theorem splice {α : Type} (l xs : List α) (a s o : Nat) (h : a + s ≤ l.length) (hx : o + xs.length ≤ s) :
    l.take a ++ ((((l.drop a).take s).take o) ++ xs ++ (((l.drop a).take s).drop (o + xs.length))) ++ l.drop (a + s) = l.take (a + o) ++ xs ++ l.drop (a + o + xs.length) := by
  have h1 : ((l.drop a).take s).take o = (l.drop a).take o := by rw [List.take_take]; congr 1; omega
  have h2 : l.take a ++ (l.drop a).take o = l.take (a + o) := by rw [List.take_add]
  have h3 : ((l.drop a).take s).drop (o + xs.length) ++ l.drop (a + s) = l.drop (a + o + xs.length) := by
    have e2 : l.drop (a + s) = (l.drop (a + (o + xs.length))).drop (s - (o + xs.length)) := by rw [List.drop_drop]; congr 1; omega
    rw [List.drop_take, List.drop_drop, e2, List.take_append_drop, Nat.add_assoc]
  rw [h1, List.append_assoc, List.append_assoc, List.append_assoc, h3, ← List.append_assoc, h2, List.append_assoc]

theorem shDs_set {l : List D} {n : Nat} {v : D} (h : shD v = shD (lget l n)) : shDs (l.set n v) = shDs l := by
  induction l generalizing n with
  | nil => rfl
  | cons x l ih =>
    cases n with
    | zero => simp only [List.set_cons_zero, shDs]; simp only [lget] at h; rw [h]
    | succ n => simp only [List.set_cons_succ, shDs]; rw [ih (by simpa only [lget] using h)]

theorem shAs_set {l : List AV} {n : Nat} {v : AV} (h : shA v = shA (lget l n)) : shAs (l.set n v) = shAs l := by
  induction l generalizing n with
  | nil => rfl
  | cons x l ih =>
    cases n with
    | zero => simp only [List.set_cons_zero, shAs]; simp only [lget] at h; rw [h]
    | succ n => simp only [List.set_cons_succ, shAs]; rw [ih (by simpa only [lget] using h)]

/-- Closed data put into closed data, at a typed path. -/
theorem setPD_ok {Γ : Gam} (A : Ari) : ∀ (p : List PE) (x v y : D) (o : List Bool) (off : Nat) (cs vs : List Value), setPD A p x v = some (y, o) → Obl o → DRel Γ x cs → DRel Γ v vs →
    offD p x = some off → shD v = shD (getPD A p x) → DRel Γ y (cs.take off ++ vs ++ cs.drop (off + vs.length)) ∧ shD y = shD x ∧ off + vs.length ≤ cs.length
  | [], x, v, y, o, off, cs, vs, h, ho, hx, hv, hoff, hs => by
    simp only [setPD, Option.some.injEq, Prod.mk.injEq] at h; obtain ⟨rfl, rfl⟩ := h
    simp only [offD, Option.some.injEq] at hoff; subst hoff
    simp only [getPD] at hs
    have h1 := DRel.len x cs hx
    have h2 := DRel.len v vs hv
    rw [shD_sz, hs, ← shD_sz] at h2
    refine ⟨?_, hs, by omega⟩
    simp only [List.take_zero, List.nil_append, Nat.zero_add]
    rw [h2, ← h1, List.drop_length, List.append_nil]; exact hv
  | .f n :: p, x, v, y, o, off, cs, vs, h, ho, hx, hv, hoff, hs => by
    cases x <;> simp only [offD] at hoff <;> first | (cases hoff; done) | skip
    rename_i l
    split at hoff
    · rename_i hn
      simp only [Option.map_eq_some_iff] at hoff
      obtain ⟨o1, ho1, rfl⟩ := hoff
      simp only [setPD] at h
      split at h
      · rename_i z ob hz
        simp only [Option.some.injEq, Prod.mk.injEq] at h; obtain ⟨rfl, rfl⟩ := h
        simp only [DRel] at hx
        obtain ⟨h1, h2⟩ := hx.get n hn
        obtain ⟨h3, h4, h5⟩ := setPD_ok A p (lget l n) v z ob o1 _ vs hz ho h1 hv ho1 (by simpa only [getPD] using hs)
        have hl : ((cs.drop (sumD l n)).take (lget l n).sz).length = (lget l n).sz := by simp; omega
        rw [hl] at h5
        have hz2 := DRel.len z _ h3
        have h6 := hx.set n hn h3 (by rw [shD_sz, h4, ← shD_sz])
        have hlen : ((((cs.drop (sumD l n)).take (lget l n).sz).take o1) ++ vs ++ (((cs.drop (sumD l n)).take (lget l n).sz).drop (o1 + vs.length))).length = (lget l n).sz := by
          rw [hz2, shD_sz, h4, ← shD_sz]
        rw [hlen, splice _ _ _ _ _ h2 h5] at h6
        refine ⟨by simp only [DRel, lset_eq]; exact h6, by simp only [shD, lset_eq, shDs_set h4], by omega⟩
      · cases h
    · cases hoff
  | .i j :: p, x, v, y, o, off, cs, vs, h, ho, hx, hv, hoff, hs => by
    cases x <;> simp only [offD] at hoff <;> first | (cases hoff; done) | skip
    rename_i m q
    split at hoff
    · rename_i hj
      simp only [Option.map_eq_some_iff] at hoff
      obtain ⟨o1, ho1, rfl⟩ := hoff
      cases p with
      | nil =>
        simp only [offD, Option.some.injEq] at ho1; subst ho1
        simp only [setPD] at h
        split at h
        · rename_i q' ob hq
          simp only [Option.some.injEq, Prod.mk.injEq] at h; obtain ⟨rfl, rfl⟩ := h
          simp only [DRel] at hx
          obtain ⟨h1, h2, h3⟩ := Sq.set_ok hq ho hx.1 hv hj.1 (by rw [hx.2]; exact hj.2)
          have hg := SqR.get hx.1 j.toNat (by rw [hx.2]; omega)
          simp only [getPD, Sq.get_at] at hs
          have hvl := DRel.len v vs hv
          rw [shD_sz, hs, ← shD_sz, hg.2.1] at hvl
          refine ⟨by simp only [DRel, Nat.add_zero]; exact ⟨h1, by omega⟩, by simp only [shD, Sq.kd_st h3, Sq.kd_isG h3], by rw [hvl]; omega⟩
        · cases h
      | cons a p => simp [setPD] at h
    · cases hoff

theorem setP_ok {X : Tb} {P : Program} (hX : TbOK X P) {E : Env} (A : Ari) : ∀ (p : List PE) (v x y : AV) (o : List Bool) (t u off : Nat) (cs xs : List Value), setP A p v x = some (y, o) → Obl o → R X E v cs → R X E x xs →
    Fit X t v → offT X p t = some off → tyAt X p t = some u → shA x = shA (getP A p v) →
    R X E y (cs.take off ++ xs ++ cs.drop (off + xs.length)) ∧ shA y = shA v ∧ off + xs.length ≤ cs.length
  | [], v, x, y, o, t, u, off, cs, xs, h, ho, hv, hx, hf, hoff, hu, hs => by
    simp only [setP, Option.some.injEq, Prod.mk.injEq] at h; obtain ⟨rfl, rfl⟩ := h
    simp only [offT, Option.some.injEq] at hoff; subst hoff
    simp only [tyAt, Option.some.injEq] at hu; subst hu
    simp only [getP] at hs
    have h1 := R.len v cs hv
    have h2 := R.len x xs hx
    have h3 := (hf.of_sh hs).szA hX x t
    have h4 := hf.szA hX v t
    have h5 : xs.length = cs.length := by rw [h1, h2, h3.1, h4.1]
    obtain ⟨h6, h7⟩ := expand_ok (X := X) (E := E) x xs
    refine ⟨?_, by rw [h7, hs], by omega⟩
    simp only [List.take_zero, List.nil_append, Nat.zero_add]
    rw [h5, List.drop_length, List.append_nil]; exact h6.2 hx
  | .f n :: p, v, x, y, o, t, u, off, cs, xs, h, ho, hv, hx, hf, hoff, hu, hs => by
    have hd : ∀ d, v = .d d → R X E y (cs.take off ++ xs ++ cs.drop (off + xs.length)) ∧ shA y = shA v ∧ off + xs.length ≤ cs.length := by
      rintro d rfl
      obtain ⟨h1, h2⟩ := offD_of hX A (.f n :: p) d t u off hf hoff hu
      cases x <;> simp only [setP] at h <;> first | (cases h; done) | skip
      rename_i d2
      split at h
      · rename_i z ob hz
        simp only [Option.some.injEq, Prod.mk.injEq] at h; obtain ⟨rfl, rfl⟩ := h
        simp only [R] at hv hx
        simp only [shA, getP] at hs
        obtain ⟨h3, h4, h5⟩ := setPD_ok A (.f n :: p) d d2 z _ off cs xs hz ho hv hx h1 hs
        exact ⟨by simp only [R]; exact h3, by simp only [shA, h4], h5⟩
      · cases h
    have hoff' := hoff
    simp only [offT] at hoff
    split at hoff
    · rename_i sz fs htd
      obtain ⟨l, hl | ⟨l', hl⟩⟩ := hf.td_strct htd
      · subst hl
        obtain ⟨sz', fs', h1, h2, h3⟩ := hf.agg
        rw [htd] at h1; cases h1
        split at hoff
        · rename_i hn
          simp only [Option.map_eq_some_iff] at hoff
          obtain ⟨o1, ho1, rfl⟩ := hoff
          have hb : Nat.blt n (llen fs) = true := by rw [llen_eq]; exact (by rw [Nat.blt_eq]; exact hn)
          simp only [tyAt, htd, hb, if_true] at hu
          simp only [R] at hv
          simp only [setP] at h
          split at h
          · rename_i z ob hz
            simp only [Option.some.injEq, Prod.mk.injEq] at h; obtain ⟨rfl, rfl⟩ := h
            have hn' : n < l.length := by omega
            obtain ⟨h4, h5⟩ := hv.get n hn'
            obtain ⟨h6, h7, h8⟩ := setP_ok hX A p (lget l n) x z _ _ u o1 _ xs hz ho h4 hx (h3 n hn') ho1 hu (by simpa only [getP] using hs)
            have hs' : sumAV l n = sumSz X fs n := sumSz_all l fs h2 (Fit.szs hX l fs h3) n (by omega)
            have hl : ((cs.drop (sumAV l n)).take (lget l n).sz).length = (lget l n).sz := by simp; omega
            rw [hl] at h8
            have hzl := R.len z _ h6
            have hzs : z.sz = (lget l n).sz := by
              rw [((h3 n hn').of_sh h7).szA hX z _ |>.1, ((h3 n hn').szA hX _ _).1]
            have h9 := hv.set n hn' h6 hzs
            have hlen : ((((cs.drop (sumAV l n)).take (lget l n).sz).take o1) ++ xs ++ (((cs.drop (sumAV l n)).take (lget l n).sz).drop (o1 + xs.length))).length = (lget l n).sz := by rw [hzl, hzs]
            rw [hlen, splice _ _ _ _ _ h5 h8, hs'] at h9
            exact ⟨by simp only [R, lset_eq]; exact h9, by simp only [shA, lset_eq, shAs_set h7], by omega⟩
          · cases h
        · cases hoff
      · exact hd _ hl
    · cases hoff
  | .i j :: p, v, x, y, o, t, u, off, cs, xs, h, ho, hv, hx, hf, hoff, hu, hs => by
    have hoff' := hoff
    simp only [offT] at hoff
    split at hoff
    · rename_i sz m e htd
      obtain ⟨q, rfl⟩ := hf.td_arr htd
      obtain ⟨h1, h2⟩ := offD_of hX A (.i j :: p) _ t u off hf hoff' hu
      cases x <;> simp only [setP] at h <;> first | (cases h; done) | skip
      rename_i d2
      split at h
      · rename_i z ob hz
        simp only [Option.some.injEq, Prod.mk.injEq] at h; obtain ⟨rfl, rfl⟩ := h
        simp only [R] at hv hx
        simp only [shA, getP] at hs
        obtain ⟨h3, h4, h5⟩ := setPD_ok A (.i j :: p) _ d2 z _ off cs xs hz ho hv hx h1 hs
        exact ⟨by simp only [R]; exact h3, by simp only [shA, h4], h5⟩
      · cases h
    · cases hoff

end Go.Sk
