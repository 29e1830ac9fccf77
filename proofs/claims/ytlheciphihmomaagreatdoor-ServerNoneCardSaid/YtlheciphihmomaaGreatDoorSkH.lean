/- Sk, part H: typed paths: what is read there, what is put there. -/
import Derived.Test.YtlheciphihmomaaGreatDoorSkG
set_option linter.all false
namespace Go.Sk
open Go

theorem shq_eq : ∀ (a b : Sh), shq a b = true → a = b := by
  intro a
  refine Sh.rec (motive_1 := fun a => ∀ b, shq a b = true → a = b) (motive_2 := fun l => ∀ m, shqs l m = true → l = m) ?_ ?_ ?_ ?_ ?_ ?_ a
  · intro b h; cases b <;> simp [shq] at h
  · intro b h; cases b <;> simp [shq] at h ⊢
  · intro l ih b h
    cases b <;> simp [shq] at h
    rw [ih _ h]
  · intro n st sc b h
    cases b <;> simp [shq] at h
    obtain ⟨⟨rfl, rfl⟩, rfl⟩ := h; rfl
  · intro m h; cases m <;> simp [shqs] at h ⊢
  · intro x l ihx ihl m h
    cases m with
    | nil => simp [shqs] at h
    | cons y m =>
      simp [shqs] at h
      rw [ihx _ h.1, ihl _ h.2]

theorem fits_Fit {X : Tb} {t : Nat} {v : AV} (h : fits X t v = true) : Fit X t v := ⟨depth, h⟩

theorem Fit.of_sh {X : Tb} {t : Nat} {v u : AV} (h : Fit X t v) (he : shA u = shA v) : Fit X t u := by
  obtain ⟨n, h⟩ := h; exact ⟨n, by rw [he]; exact h⟩

/-- An element of an array of numbers or texts. -/
theorem Sq.at_scalar {q : Sq D} (h : q.isG = false) (i : Nat) : shD (q.at i) = .c := by cases q <;> simp_all [Sq.isG, Sq.at, shD]

theorem Fit_scalar {X : Tb} {t : Nat} {v : AV} (hv : shA v = .c) (ht : scK (X.td t) = true) : Fit X t v := by
  refine ⟨1, ?_⟩
  rw [hv]; simp only [shT]
  cases hd : X.td t <;> simp_all [scK, shq]

theorem Fit.td_strct {X : Tb} {t sz : Nat} {fs : List Nat} {v : AV} (h : Fit X t v) (ht : X.td t = .strct sz fs) : ∃ l, v = .agg l ∨ ∃ l', v = .d (.agg l') := by
  cases v <;> try (have := h.scalar rfl; rw [ht] at this; simp [TD.isAgg] at this; done)
  · rename_i x
    cases x <;> try (have := h.scalar rfl; rw [ht] at this; simp [TD.isAgg] at this; done)
    · exact ⟨[], .inr ⟨_, rfl⟩⟩
    · obtain ⟨_, _, h1, _⟩ := h.darr; rw [ht] at h1; cases h1
  · exact ⟨_, .inl rfl⟩

theorem Fit.td_arr {X : Tb} {t sz n e : Nat} {v : AV} (h : Fit X t v) (ht : X.td t = .arr sz n e) : ∃ q, v = .d (.arr n q) := by
  cases v <;> try (have := h.scalar rfl; rw [ht] at this; simp [TD.isAgg] at this; done)
  · rename_i x
    cases x <;> try (have := h.scalar rfl; rw [ht] at this; simp [TD.isAgg] at this; done)
    · obtain ⟨_, _, h1, _⟩ := h.dagg; rw [ht] at h1; cases h1
    · obtain ⟨_, _, h1, _⟩ := h.darr; rw [ht] at h1; cases h1; exact ⟨_, rfl⟩
  · obtain ⟨_, _, h1, _⟩ := h.agg; rw [ht] at h1; cases h1

section
variable {X : Tb} {P : Program} (hX : TbOK X P)
include hX

/-- A typed path is a path of the value's own, to a value of that type. -/
theorem offD_of (A : Ari) : ∀ (p : List PE) (x : D) (t u off : Nat), Fit X t (.d x) → offT X p t = some off → tyAt X p t = some u →
    offD p x = some off ∧ Fit X u (.d (getPD A p x))
  | [], x, t, u, off, h, ho, hu => by
    simp only [offT, Option.some.injEq] at ho; simp only [tyAt, Option.some.injEq] at hu; subst ho hu
    exact ⟨rfl, h⟩
  | .f n :: p, x, t, u, off, h, ho, hu => by
    simp only [offT] at ho
    split at ho
    · rename_i sz fs htd
      obtain ⟨l, hl | ⟨l', hl⟩⟩ := h.td_strct htd
      · cases hl
      · cases hl
        obtain ⟨sz', fs', h1, h2, h3⟩ := h.dagg
        rw [htd] at h1; cases h1
        split at ho
        · rename_i hn
          simp only [Option.map_eq_some_iff] at ho
          obtain ⟨o, ho, rfl⟩ := ho
          have hb : Nat.blt n (llen fs) = true := by rw [llen_eq]; exact (by rw [Nat.blt_eq]; exact hn)
          simp only [tyAt, htd, hb, if_true] at hu
          obtain ⟨h4, h5⟩ := offD_of A p (lget l' n) _ u o (h3 n (by omega)) ho hu
          have hs : sumD l' n = sumSz X fs n := by
            rw [← sumAV_eq]
            refine sumSz_all (l'.map .d) fs (by simpa using h2) (fun i hi => ?_) n (by simp; omega)
            rw [lget_map _ _ _ (by simpa using hi)]
            exact Fit.szDs hX l' fs h3 i (by simpa using hi)
          refine ⟨?_, h5⟩
          simp only [offD]
          rw [if_pos (by omega), h4, hs]; rfl
        · cases ho
    · cases ho
  | .i j :: p, x, t, u, off, h, ho, hu => by
    simp only [offT] at ho
    split at ho
    · rename_i sz m e htd
      obtain ⟨q, hq⟩ := h.td_arr htd
      cases hq
      obtain ⟨sz', e', h1, h2, h3⟩ := h.darr
      rw [htd] at h1; cases h1
      split at ho
      · rename_i hj
        simp only [Option.map_eq_some_iff] at ho
        obtain ⟨o, ho, rfl⟩ := ho
        simp only [tyAt, htd] at hu
        split at hu
        · rename_i hsc
          have hg : q.isG = false := by rw [hsc] at h3; simpa using h3
          have hfe : Fit X e (.d (q.at j.toNat)) := Fit_scalar (by simp only [shA]; exact Sq.at_scalar hg _) hsc
          obtain ⟨h4, h5⟩ := offD_of A p (q.at j.toNat) _ u o hfe ho hu
          refine ⟨?_, by simpa only [getPD, Sq.get_at] using h5⟩
          simp only [offD]
          rw [if_pos hj, h4, h2]; rfl
        · cases hu
      · cases ho
    · cases ho

theorem getP_ok {E : Env} (A : Ari) : ∀ (p : List PE) (v : AV) (t u off : Nat) (cs : List Value), R X E v cs → Fit X t v → offT X p t = some off → tyAt X p t = some u →
    R X E (getP A p v) ((cs.drop off).take (X.td u).size) ∧ off + (X.td u).size ≤ cs.length ∧ Fit X u (getP A p v)
  | [], v, t, u, off, cs, hr, h, ho, hu => by
    simp only [offT, Option.some.injEq] at ho; simp only [tyAt, Option.some.injEq] at hu; subst ho hu
    have h1 := R.len v cs hr
    have h2 := (h.szA hX v t).1
    simp only [getP, List.drop_zero]
    rw [← h2, ← h1, List.take_length]
    exact ⟨hr, by omega, h⟩
  | .f n :: p, v, t, u, off, cs, hr, h, ho, hu => by
    have hd : ∀ x, v = .d x → R X E (getP A (.f n :: p) v) ((cs.drop off).take (X.td u).size) ∧ off + (X.td u).size ≤ cs.length ∧ Fit X u (getP A (.f n :: p) v) := by
      rintro x rfl
      obtain ⟨h1, h2⟩ := offD_of hX A (.f n :: p) x t u off h ho hu
      simp only [R] at hr
      obtain ⟨h3, h4⟩ := getPD_ok A (.f n :: p) x cs off hr h1
      have h5 := (Fit.szD hX _ u h2).1
      rw [h5] at h3 h4
      exact ⟨by simp only [getP, R]; exact h3, h4, by simpa only [getP] using h2⟩
    have ho' := ho
    simp only [offT] at ho
    split at ho
    · rename_i sz fs htd
      obtain ⟨l, hl | ⟨l', hl⟩⟩ := h.td_strct htd
      · subst hl
        obtain ⟨sz', fs', h1, h2, h3⟩ := h.agg
        rw [htd] at h1; cases h1
        split at ho
        · rename_i hn
          simp only [Option.map_eq_some_iff] at ho
          obtain ⟨o, ho, rfl⟩ := ho
          have hb : Nat.blt n (llen fs) = true := by rw [llen_eq]; exact (by rw [Nat.blt_eq]; exact hn)
          simp only [tyAt, htd, hb, if_true] at hu
          simp only [R] at hr
          obtain ⟨h4, h5⟩ := Rs_.get hr n (by omega)
          obtain ⟨h6, h7, h8⟩ := getP_ok A p (lget l n) _ u o _ h4 (h3 n (by omega)) ho hu
          have hs : sumAV l n = sumSz X fs n := sumSz_all l fs h2 (Fit.szs hX l fs h3) n (by omega)
          have hl : ((cs.drop (sumAV l n)).take (lget l n).sz).length = (lget l n).sz := by simp; omega
          rw [hl] at h7
          rw [drop_take_drop_take _ _ _ _ _ h7, hs] at h6
          simp only [getP]
          exact ⟨h6, by omega, h8⟩
        · cases ho
      · exact hd _ hl
    · cases ho
  | .i j :: p, v, t, u, off, cs, hr, h, ho, hu => by
    have ho' := ho
    simp only [offT] at ho
    split at ho
    · rename_i sz m e htd
      obtain ⟨q, rfl⟩ := h.td_arr htd
      obtain ⟨h1, h2⟩ := offD_of hX A (.i j :: p) _ t u off h ho' hu
      simp only [R] at hr
      obtain ⟨h3, h4⟩ := getPD_ok A (.i j :: p) _ cs off hr h1
      have h5 := (Fit.szD hX _ u h2).1
      rw [h5] at h3 h4
      exact ⟨by simp only [getP, R]; exact h3, h4, by simpa only [getP] using h2⟩
    · cases ho
end

/-! ### Laid open, and closed again -/
mutual
theorem expandD_ok {X : Tb} {E : Env} : ∀ (x : D) (cs : List Value), (R X E (expandD x) cs ↔ DRel E.Γ x cs) ∧ shA (expandD x) = shD x
  | .agg l, cs => by
    obtain ⟨h1, h2⟩ := expandDs_ok (X := X) (E := E) l cs
    exact ⟨by simp only [expandD, R, DRel]; exact h1, by simp only [expandD, shA, shD, h2]⟩
  | .bool _, cs => ⟨by simp only [expandD, R], rfl⟩
  | .int _ _, cs => ⟨by simp only [expandD, R], rfl⟩
  | .str _, cs => ⟨by simp only [expandD, R], rfl⟩
  | .arr _ _, cs => ⟨by simp only [expandD, R], rfl⟩
  | .sl _, cs => ⟨by simp only [expandD, R], rfl⟩
  | .slx _, cs => ⟨by simp only [expandD, R], rfl⟩
  | .nils, cs => ⟨by simp only [expandD, R], rfl⟩
  | .nilp, cs => ⟨by simp only [expandD, R], rfl⟩
  | .nilm, cs => ⟨by simp only [expandD, R], rfl⟩
  | .nilf, cs => ⟨by simp only [expandD, R], rfl⟩
  | .nili, cs => ⟨by simp only [expandD, R], rfl⟩
  | .ifc _ _, cs => ⟨by simp only [expandD, R], rfl⟩
  | .junk, cs => ⟨by simp only [expandD, R], rfl⟩
theorem expandDs_ok {X : Tb} {E : Env} : ∀ (l : List D) (cs : List Value), (Rs_ X E (expandDs l) cs ↔ DsRel E.Γ l cs) ∧ shAs (expandDs l) = shDs l
  | [], cs => ⟨by simp only [expandDs, Rs_, DsRel], rfl⟩
  | x :: l, cs => by
    refine ⟨?_, by simp only [expandDs, shAs, shDs, (expandD_ok (X := X) (E := E) x []).2, (expandDs_ok (X := X) (E := E) l []).2]⟩
    simp only [expandDs, Rs_, DsRel]
    constructor
    · rintro ⟨a, b, rfl, ha, hb⟩; exact ⟨a, b, rfl, ((expandD_ok x a).1).1 ha, ((expandDs_ok l b).1).1 hb⟩
    · rintro ⟨a, b, rfl, ha, hb⟩; exact ⟨a, b, rfl, ((expandD_ok x a).1).2 ha, ((expandDs_ok l b).1).2 hb⟩
end

mutual
theorem expand_ok {X : Tb} {E : Env} : ∀ (v : AV) (cs : List Value), (R X E (expand v) cs ↔ R X E v cs) ∧ shA (expand v) = shA v
  | .d x, cs => by
    obtain ⟨h1, h2⟩ := expandD_ok (X := X) (E := E) x cs
    exact ⟨by simp only [expand, R]; exact h1, by simp only [expand, shA]; exact h2⟩
  | .agg l, cs => by
    obtain ⟨h1, h2⟩ := expands_ok (X := X) (E := E) l cs
    exact ⟨by simp only [expand, R]; exact h1, by simp only [expand, shA, h2]⟩
  | .ptr _ _, cs => ⟨by simp only [expand], rfl⟩
  | .ep _ _ _ _, cs => ⟨by simp only [expand], rfl⟩
  | .pd _ _, cs => ⟨by simp only [expand], rfl⟩
  | .tup _, cs => ⟨by simp only [expand], rfl⟩
  | .slt _ _ _, cs => ⟨by simp only [expand], rfl⟩
  | .msl _ _ _ _, cs => ⟨by simp only [expand], rfl⟩
  | .asl _ _ _ _, cs => ⟨by simp only [expand], rfl⟩
  | .map _, cs => ⟨by simp only [expand], rfl⟩
  | .fn _ _ _, cs => ⟨by simp only [expand], rfl⟩
  | .yield _, cs => ⟨by simp only [expand], rfl⟩
  | .ifc _ _, cs => ⟨by simp only [expand], rfl⟩
  | .gd _ _, cs => ⟨by simp only [expand], rfl⟩
  | .gl _, cs => ⟨by simp only [expand], rfl⟩
  | .undef, cs => ⟨by simp only [expand], rfl⟩
theorem expands_ok {X : Tb} {E : Env} : ∀ (l : List AV) (cs : List Value), (Rs_ X E (expands l) cs ↔ Rs_ X E l cs) ∧ shAs (expands l) = shAs l
  | [], cs => ⟨by simp only [expands], rfl⟩
  | x :: l, cs => by
    refine ⟨?_, by simp only [expands, shAs, (expand_ok (X := X) (E := E) x []).2, (expands_ok (X := X) (E := E) l []).2]⟩
    simp only [expands, Rs_]
    constructor
    · rintro ⟨a, b, rfl, ha, hb⟩; exact ⟨a, b, rfl, ((expand_ok x a).1).1 ha, ((expands_ok l b).1).1 hb⟩
    · rintro ⟨a, b, rfl, ha, hb⟩; exact ⟨a, b, rfl, ((expand_ok x a).1).2 ha, ((expands_ok l b).1).2 hb⟩
end

theorem consD_some {v : AV} {o : Option (List D)} {ds : List D} (h : consD v o = some ds) : ∃ x l, v = .d x ∧ o = some l ∧ ds = x :: l := by
  unfold consD at h
  split at h
  · simp only [Option.some.injEq] at h; exact ⟨_, _, rfl, rfl, h.symm⟩
  · cases h

mutual
theorem norm_ok {X : Tb} {E : Env} : ∀ (v : AV) (cs : List Value), (R X E (norm v) cs ↔ R X E v cs) ∧ shA (norm v) = shA v ∧ (norm v).isAgg = v.isAgg
  | .agg l, cs => by
    simp only [norm]
    split
    · rename_i ds hds
      obtain ⟨h1, h2⟩ := normD_ok (X := X) (E := E) l ds hds
      exact ⟨by simp only [R, DRel]; exact (h1 cs).symm, by simp only [shA, shD, h2], rfl⟩
    · obtain ⟨h1, h2⟩ := norms_ok (X := X) (E := E) l cs
      exact ⟨by simp only [R]; exact h1, by simp only [shA, h2], rfl⟩
  | .d x, cs => ⟨by simp only [norm], rfl, rfl⟩
  | .ptr _ _, cs => ⟨by simp only [norm], rfl, rfl⟩
  | .ep _ _ _ _, cs => ⟨by simp only [norm], rfl, rfl⟩
  | .pd _ _, cs => ⟨by simp only [norm], rfl, rfl⟩
  | .tup _, cs => ⟨by simp only [norm], rfl, rfl⟩
  | .slt _ _ _, cs => ⟨by simp only [norm], rfl, rfl⟩
  | .msl _ _ _ _, cs => ⟨by simp only [norm], rfl, rfl⟩
  | .asl _ _ _ _, cs => ⟨by simp only [norm], rfl, rfl⟩
  | .map _, cs => ⟨by simp only [norm], rfl, rfl⟩
  | .fn _ _ _, cs => ⟨by simp only [norm], rfl, rfl⟩
  | .yield _, cs => ⟨by simp only [norm], rfl, rfl⟩
  | .ifc _ _, cs => ⟨by simp only [norm], rfl, rfl⟩
  | .gd _ _, cs => ⟨by simp only [norm], rfl, rfl⟩
  | .gl _, cs => ⟨by simp only [norm], rfl, rfl⟩
  | .undef, cs => ⟨by simp only [norm], rfl, rfl⟩
theorem norms_ok {X : Tb} {E : Env} : ∀ (l : List AV) (cs : List Value), (Rs_ X E (norms l) cs ↔ Rs_ X E l cs) ∧ shAs (norms l) = shAs l
  | [], cs => ⟨by simp only [norms], rfl⟩
  | x :: l, cs => by
    refine ⟨?_, by simp only [norms, shAs, (norm_ok (X := X) (E := E) x []).2.1, (norms_ok (X := X) (E := E) l []).2]⟩
    simp only [norms, Rs_]
    constructor
    · rintro ⟨a, b, rfl, ha, hb⟩; exact ⟨a, b, rfl, ((norm_ok x a).1).1 ha, ((norms_ok l b).1).1 hb⟩
    · rintro ⟨a, b, rfl, ha, hb⟩; exact ⟨a, b, rfl, ((norm_ok x a).1).2 ha, ((norms_ok l b).1).2 hb⟩
theorem normD_ok {X : Tb} {E : Env} : ∀ (l : List AV) (ds : List D), normD l = some ds → (∀ cs, Rs_ X E l cs ↔ DsRel E.Γ ds cs) ∧ shAs l = shDs ds
  | [], ds, h => by simp only [normD, Option.some.injEq] at h; subst h; exact ⟨fun cs => by simp only [Rs_, DsRel], rfl⟩
  | v :: l, ds, h => by
    simp only [normD] at h
    obtain ⟨x, m, h1, h2, rfl⟩ := consD_some h
    obtain ⟨h3, h4⟩ := normD_ok (X := X) (E := E) l m h2
    have h5 := norm_ok (X := X) (E := E) v
    refine ⟨fun cs => ?_, by rw [shAs, shDs, h4, ← (h5 []).2.1, h1]; rfl⟩
    simp only [Rs_, DsRel]
    constructor
    · rintro ⟨a, b, rfl, ha, hb⟩
      have := ((h5 a).1).2 ha; rw [h1] at this; simp only [R] at this
      exact ⟨a, b, rfl, this, (h3 b).1 hb⟩
    · rintro ⟨a, b, rfl, ha, hb⟩
      refine ⟨a, b, rfl, ((h5 a).1).1 ?_, (h3 b).2 hb⟩
      rw [h1]; simpa only [R] using ha
end

end Go.Sk
