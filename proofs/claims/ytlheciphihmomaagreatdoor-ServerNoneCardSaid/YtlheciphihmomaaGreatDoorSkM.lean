/- Sk, part M: parts of values; slicing; reading a slice whole. -/
import Derived.Test.YtlheciphihmomaaGreatDoorSkL
set_option linter.all false
namespace Go.Sk
open Go

section
variable {X : Tb} {P : Program} {E : Env} {V : List AO} {w w' : World} {A : Ari}

theorem run_part (hX : TbOK X P) {t : Nat} (hk : kn X t = true) {cs : List Value} {off : Nat} (h : off + (X.td t).size ≤ cs.length) :
    ∃ y, (part t cs.toArray off).run P w = .ok y w ∧ VOf (X.td t).isAgg ((cs.drop off).take (X.td t).size) y := by
  obtain ⟨k1, k2⟩ := kn_td hk
  cases ha : (X.td t).isAgg with
  | true =>
    refine ⟨.agg ((cs.drop off).take (X.td t).size).toArray, ?_, rfl⟩
    simp only [part, Sem.run_bind, run_isAgg hX rfl k1 k2, ha, Result.andThen_ok, if_true, run_sizeOf hX rfl k1 k2, Sem.run_pure]
    congr 2
    apply Array.ext'
    simp [List.drop_take]
  | false =>
    have h3 := size_scalar ha
    rw [h3] at h ⊢
    have hlt : off < cs.length := by omega
    refine ⟨cs[off], ?_, ?_⟩
    · simp [part, run_isAgg hX rfl k1 k2, ha, hlt]
    · show List.take 1 (List.drop off cs) = [cs[off]]
      rw [List.drop_eq_getElem_cons hlt, List.take_succ_cons, List.take_zero]

theorem field_ok (A : Ari) (hX : TbOK X P) {s f : Nat} {v x : AV} {y : Value} (hfit : fits X s v = true) (hf : hasF X s f = true)
    (hx : (∃ l, v = .agg l ∧ x = lget l f) ∨ (∃ l, v = .d (.agg l) ∧ x = .d (lget l f))) (ha : RV0 X E v y) :
    ∃ z, (Instr.field s y f).run P w = .ok z w ∧ RV0 X E x z := by
  obtain ⟨sz, fs, fields, fl, htd, hlt, hu, hfl, h1, h2, h3, h4⟩ := field_of hX hf
  have hF := fits_Fit hfit
  obtain ⟨cs, hr, hv⟩ := ha
  have hoff := offT_f htd hlt
  have hty : tyAt X [.f f] s = some (lget fs f) := by
    simp only [tyAt, htd]
    rw [if_pos (by rw [llen_eq, Nat.blt_eq]; exact hlt)]
  obtain ⟨h5, h6, h7⟩ := getP_ok hX A [.f f] v s _ _ cs hr hF hoff hty
  have hget : getP A [.f f] v = x := by
    rcases hx with ⟨l, rfl, rfl⟩ | ⟨l, rfl, rfl⟩ <;> simp [getP, getPD]
  rw [hget] at h5 h7
  have hagg : v.isAgg = true := by rcases hx with ⟨l, rfl, _⟩ | ⟨l, rfl, _⟩ <;> rfl
  rw [hagg] at hv; simp only [VOf] at hv; subst hv
  obtain ⟨z, hz, hzv⟩ := run_part (P := P) (w := w) hX h4 h6
  refine ⟨z, ?_, _, h5, by rw [(h7.szA hX _ _).2]; exact hzv⟩
  simp only [Instr.field, Sem.run_bind, run_und_raw hu, Result.andThen_ok, hfl, asAgg, Sem.run_pure, h1, h2]
  exact hz

theorem ixVal_ok (hX : TbOK X P) {t : Nat} {vx x : AV} {i : Int} {k : IntKind} {y : Value} {ob : List Bool} {g : Bool} (h : ixVal A X t vx i = some (x, ob, g)) (ho : Obl ob)
    (hx : RV0 X E vx y) : ∃ z, (Instr.index t y (.int k i)).run P w = .ok z w ∧ RV0 X E x z := by
  unfold ixVal at h
  split at h
  · rename_i l htd
    simp only [Option.some.injEq, Prod.mk.injEq] at h; obtain ⟨rfl, rfl, rfl⟩ := h
    simp only [Obl, A.inb_eq, and_true, A.len_eq] at ho
    rw [rv_str] at hx; subst hx
    obtain ⟨u, hu, rfl⟩ := (hX.known htd (by simp) (by simp)).und
    have hlt : i.toNat < l.length := by omega
    have hg : (⟨l.toArray⟩ : ByteArray)[i.toNat]? = some (l[i.toNat]'hlt) := by
      have hh : i.toNat < (⟨l.toArray⟩ : ByteArray).size := by simpa [ByteArray.size] using hlt
      rw [getElem?_pos (⟨l.toArray⟩ : ByteArray) i.toNat hh]; rfl
    refine ⟨_, ?_, rv_int.2 rfl⟩
    simp only [Instr.index, asIntOf, Sem.run_bind, Sem.run_pure, Result.andThen_ok, run_und_raw hu, ho.1, if_true, hg, A.getb_eq]
    simp [List.getD, hlt]
  · rename_i sz n e n' q htd
    split at h
    · rename_i hc0
      simp only [Bool.and_eq_true, beq_iff_eq] at hc0
      obtain ⟨rfl, hst⟩ := hc0
      simp only [Option.some.injEq, Prod.mk.injEq] at h; obtain ⟨rfl, rfl, rfl⟩ := h
      simp only [Obl, A.inb_eq, and_true] at ho
      obtain ⟨cs, hr, hv⟩ := hx
      simp only [AV.isAgg, D.isAgg, VOf] at hv; subst hv
      simp only [R, DRel] at hr
      obtain ⟨hr, hl⟩ := hr
      obtain ⟨u, hu, rfl, _⟩ := (hX.known htd (by simp) (by simp)).und
      have hlt : i.toNat < q.length := by omega
      obtain ⟨h2, h3, h4⟩ := SqR.get hr i.toNat hlt
      have hsz := stOK_size hX hst
      have hk := stOK_kn hst
      obtain ⟨k1, k2⟩ := kn_td hk
      rw [hsz] at h2 h4
      obtain ⟨z, hz, hzv⟩ := run_part (P := P) (w := w) hX hk h4
      refine ⟨z, ?_, _, by simp only [R, Sq.get_at]; exact h2, by simp only [AV.isAgg, Sq.get_at]; rw [(Fit.szD hX _ _ (stOK_fit hst hr hlt)).2]; exact hzv⟩
      simp only [Instr.index, asIntOf, Sem.run_bind, Sem.run_pure, Result.andThen_ok, run_und_raw hu]
      rw [if_pos ho]
      simp only [Sem.run_bind, run_sizeOf hX rfl k1 k2, Result.andThen_ok]; exact hz
    · cases h
  · cases h

/-! ### Slicing -/
theorem cut_cells {Γ : Gam} {q : Sq D} {b o : Nat} {ds : List Value} {lo hi : Int} (hr : SqR Γ q ds) (hc : CellsAt Γ b o ds) (h0 : 0 ≤ lo) :
    CellsAt Γ b (o + lo.toNat * q.st) ((ds.take (hi.toNat * q.st)).drop (lo.toNat * q.st)) := by
  intro j v hv
  rw [List.getElem?_drop] at hv
  have hj : lo.toNat * q.st + j < hi.toNat * q.st := by
    have := (List.getElem?_eq_some_iff.1 hv).1
    simp at this; omega
  rw [List.getElem?_take_of_lt hj] at hv
  rw [Nat.add_assoc]; exact hc _ _ hv

/-- The machine's slice of a slice. -/
theorem run_slice_slice (hX : TbOK X P) {t e : Nat} (ht : X.td t = .sl e) (hk : kn X e = true) {a : Option Addr} {n c : Nat} {lo hi mx : Option Value} {l h m : Nat}
    (hb : (Instr.sliceBounds true n c lo hi mx).run P w = .ok (l, h, m) w) :
    (Instr.sliceAt t (.slice a n c) lo hi mx).run P w = .ok (.slice (if m = l then a else a.map (·.add (l * (X.td e).size))) (h - l) (m - l)) w := by
  obtain ⟨u, hu, rfl⟩ := (hX.known ht (by simp) (by simp)).und
  obtain ⟨k1, k2⟩ := kn_td hk
  simp only [Instr.sliceAt, Sem.run_bind, run_und_raw hu, Result.andThen_ok, Instr.slice, hb, run_sizeOf hX rfl k1 k2, Sem.run_pure]

def optV (k : IntKind) : Option Int → Option Value
  | none => none
  | some n => some (.int k n)

theorem run_bound {k : IntKind} {i : Int} {y : Nat} {code : BoundsCode} (h0 : 0 ≤ i) (h1 : i ≤ (y : Int)) : (Instr.sliceBound (.int k i) y code).run P w = .ok i.toNat w := by
  simp [Instr.sliceBound, asIntOf, h0, h1]

/-- Bounds that are within the length. -/
theorem run_bounds {sl : Bool} {n c : Nat} {lo hi mx : Option Int} {kl kh km : IntKind} (hnc : n ≤ c) (hl : 0 ≤ lo.getD 0) (hlh : lo.getD 0 ≤ hi.getD n) (hhm : hi.getD n ≤ mx.getD c) (hm : mx.getD c ≤ (c : Int)) (hmh : mx.isSome = true → hi.isSome = true) :
    (Instr.sliceBounds sl n c (optV kl lo) (optV kh hi) (optV km mx)).run P w = .ok ((lo.getD 0).toNat, (hi.getD n).toNat, (mx.getD c).toNat) w := by
  cases mx with
  | none =>
    cases hi with
    | none =>
      cases lo with
      | none => simp [Instr.sliceBounds, optV]
      | some l =>
        simp only [Option.getD] at *
        simp only [Instr.sliceBounds, optV, Sem.run_bind, Sem.run_pure, Result.andThen_ok, run_bound (P := P) (w := w) hl hlh]; simp
    | some h =>
      simp only [Option.getD] at *
      have hh0 : 0 ≤ h := by omega
      have hbh : ∀ code, (Instr.sliceBound (.int kh h) c code).run P w = .ok h.toNat w := fun code => run_bound hh0 hhm
      cases lo with
      | none => simp only [Instr.sliceBounds, optV, Sem.run_bind, Sem.run_pure, Result.andThen_ok, hbh]; simp
      | some l =>
        have hlh' : l ≤ h := hlh
        have hbl : ∀ code, (Instr.sliceBound (.int kl l) h.toNat code).run P w = .ok l.toNat w := fun code => run_bound hl (by omega)
        simp only [Instr.sliceBounds, optV, Sem.run_bind, Sem.run_pure, Result.andThen_ok, hbh, hbl]; simp
  | some m =>
    obtain ⟨h, rfl⟩ := Option.isSome_iff_exists.1 (hmh rfl)
    simp only [Option.getD] at *
    have hh0 : 0 ≤ h := by omega
    have hbm : ∀ code, (Instr.sliceBound (.int km m) c code).run P w = .ok m.toNat w := fun code => run_bound (by omega) hm
    have hbh : ∀ code, (Instr.sliceBound (.int kh h) m.toNat code).run P w = .ok h.toNat w := fun code => run_bound hh0 (by omega)
    cases lo with
    | none => simp only [Instr.sliceBounds, optV, Sem.run_bind, Sem.run_pure, Result.andThen_ok, hbm, hbh]; rfl
    | some l =>
      have hlh' : l ≤ h := hlh
      have hbl : ∀ code, (Instr.sliceBound (.int kl l) h.toNat code).run P w = .ok l.toNat w := fun code => run_bound hl (by omega)
      simp only [Instr.sliceBounds, optV, Sem.run_bind, Sem.run_pure, Result.andThen_ok, hbm, hbh, hbl]

/-- A slice of fast cells, cut. -/
theorem slAt_cut {q : Sq D} {Γ : Gam} {y : Value} {ds : List Value} {l h m : Nat} {sz : Nat} (hr : SqR Γ q ds) (hs : SlAt Γ y q.length ds) (hsz : q.st = sz) (hlh : l ≤ h) (hh : h ≤ q.length) (hhm : h ≤ m)
    {a : Option Addr} {n c : Nat} (hy : y = .slice a n c) (hmc : m ≤ c) :
    SlAt Γ (.slice (if m = l then a else a.map (·.add (l * sz))) (h - l) (m - l)) (h - l) ((ds.take (h * q.st)).drop (l * q.st)) := by
  subst hy
  rcases hs with ⟨b, o, cap, hy, hcap, hc⟩ | ⟨a', hy, hn⟩
  · simp only [Value.slice.injEq] at hy; obtain ⟨rfl, rfl, rfl⟩ := hy
    by_cases hml : m = l
    · have : h = l := by omega
      subst this
      rw [if_pos hml]
      refine .inl ⟨b, o, m - h, rfl, by omega, ?_⟩
      intro j v hv
      have := (List.getElem?_eq_some_iff.1 hv).1
      exfalso; simp only [List.length_drop, List.length_take] at this; omega
    · rw [if_neg hml]
      refine .inl ⟨b, o + l * sz, m - l, by simp [addr_add], by omega, ?_⟩
      have := cut_cells (q := q) (lo := (l : Int)) (hi := (h : Int)) hr hc (by omega)
      simpa [hsz] using this
  · simp only [Value.slice.injEq] at hy; obtain ⟨rfl, rfl, rfl⟩ := hy
    have h1 : h = 0 := by omega
    have h2 : l = 0 := by omega
    have h3 : m = 0 := by omega
    subst h1 h2 h3
    exact .inr ⟨_, rfl, rfl⟩

end
end Go.Sk
