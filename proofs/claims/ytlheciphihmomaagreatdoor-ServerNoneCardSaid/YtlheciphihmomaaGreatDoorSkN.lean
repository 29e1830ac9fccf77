/- Sk, part N: slicing, whole; a slice's elements read. -/
import Derived.Test.YtlheciphihmomaaGreatDoorSkM
import Derived.Lib.Strings
set_option linter.all false
namespace Go.Sk
open Go

section
variable {X : Tb} {P : Program} {E : Env} {V : List AO} {w w' : World} {A : Ari}

theorem capOf_slice (a : Option Addr) (n c : Nat) : capOf (.slice a n c) = c := rfl

theorem slQ_td {t : Nat} {q : Sq D} (h : slQ X t q = true) : ∃ e, X.td t = .sl e ∧ stOK X e q = true := by
  unfold slQ at h; split at h
  · rename_i e htd; exact ⟨e, htd, h⟩
  · cases h

theorem slAt_shape {Γ : Gam} {y : Value} {n : Nat} {ds : List Value} (h : SlAt Γ y n ds) : ∃ a c, y = .slice a n c ∧ n ≤ c := by
  rcases h with ⟨b, o, cap, rfl, hc, _⟩ | ⟨a, rfl, rfl⟩
  · exact ⟨_, _, rfl, hc⟩
  · exact ⟨_, _, rfl, Nat.le_refl _⟩

/-- A slice of closed data (its cells fast), cut: the machine's answer, and what it is. -/
theorem slice_q (hX : TbOK X P) {t : Nat} {q : Sq D} {y : Value} {ds : List Value} (hq : slQ X t q = true) (hr : SqR E.Γ q ds) (hs : SlAt E.Γ y q.length ds)
    {lo hi mx : Option Int} {kl kh km : IntKind} {c : Nat} (hc : capOf y = c) (hl : 0 ≤ lo.getD 0) (hlh : lo.getD 0 ≤ hi.getD q.length) (hh : hi.getD q.length ≤ (q.length : Int))
    (hm : ∀ m, mx = some m → m = hi.getD q.length) (hmh : mx.isSome = true → hi.isSome = true) :
    ∃ a e, (Instr.sliceAt t y (optV kl lo) (optV kh hi) (optV km mx)).run P w = .ok (.slice a ((hi.getD q.length).toNat - (lo.getD 0).toNat) ((mx.getD c).toNat - (lo.getD 0).toNat)) w ∧
      X.td t = .sl e ∧ q.st = (X.td e).size ∧
      SlAt E.Γ (.slice a ((hi.getD q.length).toNat - (lo.getD 0).toNat) ((mx.getD c).toNat - (lo.getD 0).toNat)) (q.cut A (lo.getD 0) (hi.getD q.length)).length
        ((ds.take ((hi.getD q.length).toNat * q.st)).drop ((lo.getD 0).toNat * q.st)) ∧
      (∀ b o cap, y = .slice (some ⟨b, o, none⟩) q.length cap → (mx.getD c).toNat ≠ (lo.getD 0).toNat → a = some ⟨b, o + (lo.getD 0).toNat * q.st, none⟩) := by
  obtain ⟨e, htd, hst⟩ := slQ_td hq
  have hsz := stOK_size hX hst
  obtain ⟨a0, c0, hy, hc0⟩ := slAt_shape hs
  have hcc : c0 = c := by rw [hy] at hc; exact hc
  subst hcc
  have hmc : mx.getD c0 ≤ (c0 : Int) := by
    cases mx with
    | none => exact Int.le_refl _
    | some m => have := hm m rfl; simp only [Option.getD_some]; omega
  have hhm : hi.getD q.length ≤ mx.getD c0 := by
    cases mx with
    | none => simp only [Option.getD_none]; omega
    | some m => have := hm m rfl; simp only [Option.getD_some]; omega
  have hb := run_bounds (P := P) (w := w) (sl := true) (n := q.length) (c := c0) (lo := lo) (hi := hi) (mx := mx) (kl := kl) (kh := kh) (km := km) hc0 hl hlh hhm hmc hmh
  have hrun := run_slice_slice (a := a0) hX htd (stOK_kn hst) hb
  rw [← hy] at hrun
  obtain ⟨_, hcl, _⟩ := Sq.cut_ok (A := A) hr hl hlh hh
  have hcl2 : (q.cut A (lo.getD 0) (hi.getD q.length)).length = (hi.getD q.length).toNat - (lo.getD 0).toNat := by rw [hcl]; omega
  refine ⟨_, e, hrun, htd, hsz, ?_, ?_⟩
  · rw [hcl2]
    exact slAt_cut (sz := (X.td e).size) hr hs hsz (by omega) (by omega) (by omega) hy (by omega)
  · intro b o cap hy' hne
    rw [hy'] at hy
    simp only [Value.slice.injEq] at hy
    obtain ⟨rfl, _, _⟩ := hy
    rw [if_neg hne]; simp [addr_add, hsz]

theorem sliceAV_ok (hX : TbOK X P) (hi0 : Inv X P E V w) {t : Nat} {vx x : AV} {lo hi mx : Option Int} {kl kh km : IntKind} {y : Value} {ob : List Bool} (h : sliceAV A X V t vx lo hi mx = some (x, ob)) (ho : Obl ob)
    (hx : RV0 X E vx y) : ∃ z, (Instr.sliceAt t y (optV kl lo) (optV kh hi) (optV km mx)).run P w = .ok z w ∧ RV0 X E x z := by
  unfold sliceAV at h
  split at h
  · -- a text
    rename_i s
    simp only [A.len_eq] at h
    cases mx with
    | some m => cases h
    | none =>
      simp only at h
      split at h
      · rename_i htd
        simp only [Option.some.injEq, Prod.mk.injEq] at h; obtain ⟨rfl, rfl⟩ := h
        simp only [Obl, A.bnd_eq, and_true, A.len_eq] at ho
        rw [rv_str] at hx; subst hx
        have htd : X.td t = .str := by unfold isStr at htd; split at htd <;> first | assumption | cases htd
        obtain ⟨u, hu, rfl⟩ := (hX.known htd (by simp) (by simp)).und
        have hsz : (⟨s.toArray⟩ : ByteArray).size = s.length := by simp [ByteArray.size]
        have hb := run_bounds (P := P) (w := w) (sl := false) (n := s.length) (c := s.length) (lo := lo) (hi := hi) (mx := none) (kl := kl) (kh := kh) (km := km) (Nat.le_refl _) ho.1 ho.2.1 ho.2.2 (Int.le_refl _) (by simp)
        refine ⟨_, ?_, rv_str.2 rfl⟩
        simp only [Instr.sliceAt, Sem.run_bind, run_und_raw hu, Result.andThen_ok, Instr.slice, optV, Option.isSome, Bool.false_eq_true, if_false, Sem.run_pure, hsz]
        simp only [optV] at hb
        rw [hb]
        simp only [Result.andThen_ok, Sem.run_pure, Lib.extract_eq, A.cut_eq, List.drop_take]
      · cases h
  · -- nil
    cases mx with
    | some m => cases h
    | none =>
      simp only at h
      split at h
      · rename_i htd
        simp only [Option.some.injEq, Prod.mk.injEq] at h; obtain ⟨rfl, rfl⟩ := h
        simp only [Obl, A.eqI_eq, and_true] at ho
        rw [rv_nils] at hx; subst hx
        obtain ⟨e, htd, hk⟩ : ∃ e, X.td t = .sl e ∧ kn X e = true := by unfold isSl at htd; split at htd <;> first | (rename_i e h1; exact ⟨e, h1, htd⟩) | cases htd
        have hb := run_bounds (P := P) (w := w) (sl := true) (n := 0) (c := 0) (lo := lo) (hi := hi) (mx := none) (kl := kl) (kh := kh) (km := km) (Nat.le_refl _) (by omega) (by rw [ho.1]; simp only [Int.ofNat_zero]; omega) (by simp only [Int.ofNat_zero, Option.getD_none]; omega) (by simp) (by simp)
        refine ⟨_, run_slice_slice hX htd hk hb, rv_nils.2 ?_⟩
        simp only [Int.ofNat_zero, ho.1, ho.2]; rfl
      · cases h
  · -- closed
    rename_i q
    simp only [Sq.len_eq] at h
    obtain ⟨ds, hr, hs⟩ := rv_sl.1 hx
    split at h
    · rename_i hq
      cases mx with
      | none =>
        simp only [Option.some.injEq, Prod.mk.injEq] at h; obtain ⟨rfl, rfl⟩ := h
        simp only [Obl, A.bnd_eq, and_true, Sq.len_eq] at ho
        obtain ⟨a, e, h1, _, _, h2, _⟩ := slice_q (A := A) (P := P) (w := w) hX hq hr hs (lo := lo) (hi := hi) (mx := none) (kl := kl) (kh := kh) (km := km) rfl ho.1 ho.2.1 ho.2.2 (by simp) (by simp)
        exact ⟨_, h1, rv_sl.2 ⟨_, (Sq.cut_ok hr ho.1 ho.2.1 ho.2.2).1, h2⟩⟩
      | some m =>
        cases hi with
        | none => cases h
        | some hh =>
          simp only [Option.some.injEq, Prod.mk.injEq] at h; obtain ⟨rfl, rfl⟩ := h
          simp only [Obl, A.bnd_eq, A.eqI_eq, and_true, Sq.len_eq, Option.getD_some] at ho
          obtain ⟨a, e, h1, _, _, h2, _⟩ := slice_q (A := A) (P := P) (w := w) hX hq hr hs (lo := lo) (hi := some hh) (mx := some m) (kl := kl) (kh := kh) (km := km) rfl ho.1.1 ho.1.2.1 ho.1.2.2 (by simpa using ho.2) (by simp)
          obtain ⟨h3, h4, _⟩ := Sq.cut_ok (A := A) hr ho.1.1 ho.1.2.1 ho.1.2.2
          refine ⟨_, h1, rv_slx.2 ⟨_, h3, h2, ?_⟩⟩
          simp only [capOf_slice, Option.getD_some]; rw [h4, ho.2]; omega
    · cases h
  · -- closed, and no more
    rename_i q
    obtain ⟨ds, hr, hs, hcap⟩ := rv_slx.1 hx
    split at h
    · rename_i hq
      cases mx with
      | none =>
        cases hi with
        | none =>
          simp only [Option.some.injEq, Prod.mk.injEq] at h; obtain ⟨rfl, rfl⟩ := h
          simp only [Obl, A.bnd_eq, and_true, Sq.len_eq] at ho
          obtain ⟨a, e, h1, _, _, h2, _⟩ := slice_q (A := A) (P := P) (w := w) hX hq hr hs (lo := lo) (hi := none) (mx := none) (kl := kl) (kh := kh) (km := km) hcap ho.1 ho.2.1 ho.2.2 (by simp) (by simp)
          simp only [Sq.len_eq]
          obtain ⟨h3, h4, _⟩ := Sq.cut_ok (A := A) hr ho.1 ho.2.1 ho.2.2
          refine ⟨_, h1, rv_slx.2 ⟨_, h3, h2, ?_⟩⟩
          simp only [capOf_slice, Option.getD_none]; rw [h4]; omega
        | some hh =>
          simp only [Option.some.injEq, Prod.mk.injEq] at h; obtain ⟨rfl, rfl⟩ := h
          simp only [Obl, A.bnd_eq, and_true, Sq.len_eq] at ho
          obtain ⟨a, e, h1, _, _, h2, _⟩ := slice_q (A := A) (P := P) (w := w) hX hq hr hs (lo := lo) (hi := some hh) (mx := none) (kl := kl) (kh := kh) (km := km) hcap ho.1 ho.2.1 ho.2.2 (by simp) (by simp)
          exact ⟨_, h1, rv_sl.2 ⟨_, (Sq.cut_ok hr ho.1 ho.2.1 ho.2.2).1, h2⟩⟩
      | some m =>
        cases hi with
        | none => cases h
        | some hh =>
          simp only [Option.some.injEq, Prod.mk.injEq] at h; obtain ⟨rfl, rfl⟩ := h
          simp only [Obl, A.bnd_eq, A.eqI_eq, and_true, Sq.len_eq, Option.getD_some] at ho
          obtain ⟨a, e, h1, _, _, h2, _⟩ := slice_q (A := A) (P := P) (w := w) hX hq hr hs (lo := lo) (hi := some hh) (mx := some m) (kl := kl) (kh := kh) (km := km) hcap ho.1.1 ho.1.2.1 ho.1.2.2 (by simpa using ho.2) (by simp)
          obtain ⟨h3, h4, _⟩ := Sq.cut_ok (A := A) hr ho.1.1 ho.1.2.1 ho.1.2.2
          refine ⟨_, h1, rv_slx.2 ⟨_, h3, h2, ?_⟩⟩
          simp only [capOf_slice, Option.getD_some]; rw [h4, ho.2]; omega
    · cases h
  · -- with the right to grow
    rename_i q r n
    obtain ⟨ds, τ, c, hr, hs, hg, hnc, htok⟩ := rv_slt.1 hx
    split at h
    · rename_i hq
      cases mx with
      | none =>
        cases hi with
        | none =>
          simp only [Option.some.injEq, Prod.mk.injEq] at h; obtain ⟨rfl, rfl⟩ := h
          simp only [Obl, A.bnd_eq, and_true, Sq.len_eq] at ho
          obtain ⟨a, e, h1, _, h5, h2, h6⟩ := slice_q (A := A) (P := P) (w := w) hX hq hr hs (lo := lo) (hi := none) (mx := none) (kl := kl) (kh := kh) (km := km) rfl ho.1 ho.2.1 ho.2.2 (by simp) (by simp)
          simp only [Sq.len_eq]
          obtain ⟨h3, h4, h7⟩ := Sq.cut_ok (A := A) hr ho.1 ho.2.1 ho.2.2
          refine ⟨_, h1, rv_slt.2 ⟨_, τ, c, h3, h2, hg, hnc, ?_⟩⟩
          simp only [capOf_slice, Option.getD_none] at h6 h4 ⊢
          rw [h4]
          rcases htok with ht | ⟨b, o, cap, o', cc, rfl, hτ, ho1, ho2⟩
          · exact .inl (by rw [ht]; omega)
          · by_cases hne : cap = (lo.getD 0).toNat
            · refine .inl ?_
              obtain ⟨_, _, e1, e2⟩ := slAt_shape hs
              simp only [Value.slice.injEq] at e1
              obtain ⟨_, _, rfl⟩ := e1
              rw [capOf_slice]; omega
            · have := h6 b o cap rfl (by rw [capOf_slice]; simpa using hne)
              refine .inr ⟨b, o + (lo.getD 0).toNat * q.st, cap - (lo.getD 0).toNat, o', cc, ?_, hτ, ?_, ?_⟩
              · rw [this]; congr 1
                all_goals (first | omega | (rw [capOf_slice]; omega))
              · rw [Sq.kd_st h7, ← ho1, Nat.add_assoc, ← Nat.add_mul]; congr 2; omega
              · obtain ⟨_, _, e1, e2⟩ := slAt_shape hs
                simp only [Value.slice.injEq] at e1
                obtain ⟨_, _, rfl⟩ := e1
                rw [Sq.kd_st h7, ← ho2, Nat.add_assoc, ← Nat.add_mul]; congr 2; omega
        | some hh =>
          simp only [Option.some.injEq, Prod.mk.injEq] at h; obtain ⟨rfl, rfl⟩ := h
          simp only [Obl, A.bnd_eq, and_true, Sq.len_eq] at ho
          obtain ⟨a, e, h1, _, _, h2, _⟩ := slice_q (A := A) (P := P) (w := w) hX hq hr hs (lo := lo) (hi := some hh) (mx := none) (kl := kl) (kh := kh) (km := km) rfl ho.1 ho.2.1 ho.2.2 (by simp) (by simp)
          exact ⟨_, h1, rv_sl.2 ⟨_, (Sq.cut_ok hr ho.1 ho.2.1 ho.2.2).1, h2⟩⟩
      | some m =>
        cases hi with
        | none => cases h
        | some hh =>
          simp only [Option.some.injEq, Prod.mk.injEq] at h; obtain ⟨rfl, rfl⟩ := h
          simp only [Obl, A.bnd_eq, A.eqI_eq, and_true, Sq.len_eq, Option.getD_some] at ho
          obtain ⟨a, e, h1, _, _, h2, _⟩ := slice_q (A := A) (P := P) (w := w) hX hq hr hs (lo := lo) (hi := some hh) (mx := some m) (kl := kl) (kh := kh) (km := km) rfl ho.1.1 ho.1.2.1 ho.1.2.2 (by simpa using ho.2) (by simp)
          obtain ⟨h3, h4, _⟩ := Sq.cut_ok (A := A) hr ho.1.1 ho.1.2.1 ho.1.2.2
          refine ⟨_, h1, rv_slx.2 ⟨_, h3, h2, ?_⟩⟩
          simp only [capOf_slice, Option.getD_some]; rw [h4, ho.2]; omega
    · cases h
  · -- an array that grows
    rename_i r g off len
    cases mx with
    | some m => cases h
    | none =>
      split at h
      · rename_i e q g' _ hV
        split at h
        · rename_i hc0
          simp only [Bool.and_eq_true, beq_iff_eq] at hc0
          obtain ⟨rfl, hsl⟩ := hc0
          simp only [Option.some.injEq, Prod.mk.injEq] at h; obtain ⟨rfl, rfl⟩ := h
          simp only [Obl, A.bnd_eq, and_true] at ho
          rw [rv_of_scalar rfl] at hx; simp only [R] at hx
          obtain ⟨b, e0, g0, n, cap, y', hy, hone, hg, hle, hgo⟩ := hx
          simp only [List.cons.injEq, and_true] at hy; subst hy
          obtain ⟨b', cap', hb, hcap, hst, _⟩ := hi0.arr hV hg
          simp only [Gh.arr.injEq] at hb; obtain ⟨rfl, rfl, rfl, rfl, rfl⟩ := hb
          obtain ⟨h0, h1, h2, bo, rfl, hbo⟩ := hgo rfl
          obtain ⟨e', htd, hse⟩ : ∃ e', X.td t = .sl e' ∧ sameT X e0 e' = true := by unfold slOf at hsl; split at hsl <;> first | (rename_i e h3; exact ⟨e, h3, hsl⟩) | cases hsl
          have hte := sameT_td hX hse
          have hk : kn X e' = true := by rw [← kn_eq hte]; exact stOK_kn hst
          have hlen : ((len.toNat : Nat) : Int) = len := by omega
          have hb := run_bounds (P := P) (w := w) (sl := true) (n := len.toNat) (c := cap - off.toNat) (lo := lo) (hi := hi) (mx := none) (kl := kl) (kh := kh) (km := km) (by omega) ho.1 (by rw [hlen]; exact ho.2.1)
            (by rw [hlen]; simp only [Option.getD_none]; omega) (Int.le_refl _) (by simp)
          rw [hlen] at hb
          refine ⟨_, run_slice_slice hX htd hk hb, (rv_of_scalar rfl).2 ?_⟩
          simp only [R, A.plus_eq, A.minus_eq, Option.getD_none]
          refine ⟨b, _, _, _, _, _, rfl, rfl, hg, Nat.le_refl _, fun _ => ⟨by omega, by omega, by omega, ?_⟩⟩
          have ee : ((hi.getD len).toNat - (lo.getD 0).toNat) = (hi.getD len - lo.getD 0).toNat := by omega
          have ec : (Int.toNat ((cap - off.toNat : Nat) : Int) - (lo.getD 0).toNat) = cap - (off + lo.getD 0).toNat := by omega
          by_cases hlt : (off + lo.getD 0).toNat < cap
          · have hb2 := hbo (by omega); subst hb2
            refine ⟨⟨b, (off + lo.getD 0).toNat * (X.td e0).size, none⟩, ?_, fun _ => rfl⟩
            rw [if_neg (by omega), ee, ec]
            congr 1
            simp only [Option.map_some, addr_add, Option.some.injEq, Addr.mk.injEq, and_true, true_and]
            rw [← hte, ← Nat.add_mul]; congr 1; omega
          · refine ⟨bo, ?_, fun hf => absurd hf hlt⟩
            rw [if_pos (by omega), ee, ec]
        · cases h
      · cases h
  · -- an array in memory
    rename_i r p
    split at h
    · rename_i sz n e u v htd hV
      split at h
      · rename_i hc0
        simp only [Bool.and_eq_true] at hc0
        obtain ⟨hty, hk⟩ := hc0
        simp only [Option.some.injEq, Prod.mk.injEq] at h; obtain ⟨rfl, rfl⟩ := h
        simp only [Obl, A.bnd_eq, and_true] at ho
        rw [rv_of_scalar rfl] at hx; simp only [R] at hx
        obtain ⟨b, t0, o, hy, hg, hof⟩ := hx
        simp only [List.cons.injEq, and_true] at hy; subst hy
        obtain ⟨b', hb, _⟩ := hi0.blk hV hg
        simp only [Gh.blk.injEq] at hb; obtain ⟨rfl, rfl⟩ := hb
        obtain ⟨t', ht', hs, _⟩ := tyIs_some hty
        obtain ⟨u2, hu2, rfl, _⟩ := (hX.known htd (by simp) (by simp)).und
        obtain ⟨k1, k2⟩ := kn_td hk
        have hb := run_bounds (P := P) (w := w) (sl := false) (n := n) (c := n) (lo := lo) (hi := hi) (mx := none) (kl := kl) (kh := kh) (km := km) (Nat.le_refl _) ho.1 ho.2.1 ho.2.2 (Int.le_refl _) (by simp)
        refine ⟨.slice (some (if n = (lo.getD 0).toNat then ⟨b, o, none⟩ else ⟨b, o + (lo.getD 0).toNat * (X.td e).size, none⟩)) ((hi.getD n).toNat - (lo.getD 0).toNat) (n - (lo.getD 0).toNat), ?_, (rv_of_scalar rfl).2 ?_⟩
        · simp only [Instr.sliceAt, Sem.run_bind, run_und_raw hu2, Result.andThen_ok, Instr.sureAddr, Sem.run_pure, hb, run_sizeOf hX rfl k1 k2, Option.getD_none, Int.toNat_natCast, addr_add]
        · simp only [R]
          refine ⟨b, _, o, t', sz, n, e, (if n = (lo.getD 0).toNat then ⟨b, o, none⟩ else ⟨b, o + (lo.getD 0).toNat * (X.td e).size, none⟩), ?_, hg, ht', by rw [sameT_td hX hs, htd], hof, ho.1, ho.2.1, ho.2.2, fun hlt => by rw [if_neg (by omega)]⟩
          congr 2; omega
      · cases h
    · cases h
  · -- an array in fast memory
    rename_i d p
    split at h
    · rename_i sz n e n' q htd hq
      split at h
      · rename_i hc0
        simp only [Bool.and_eq_true, beq_iff_eq] at hc0
        obtain ⟨rfl, hst⟩ := hc0
        simp only [Option.some.injEq, Prod.mk.injEq] at h; obtain ⟨rfl, rfl⟩ := h
        simp only [Obl, A.bnd_eq, and_true] at ho
        rw [rv_of_scalar rfl] at hx; simp only [R] at hx
        obtain ⟨b, o, ds, off, hy, hd, hc, hoff⟩ := hx
        simp only [List.cons.injEq, and_true] at hy; subst hy
        obtain ⟨hg1, hg2⟩ := getPD_ok A p d ds off hd hoff
        rw [hq] at hg1 hg2
        simp only [DRel] at hg1
        obtain ⟨hsq, hlen⟩ := hg1
        have hsz := stOK_size hX hst
        obtain ⟨u2, hu2, rfl, _⟩ := (hX.known htd (by simp) (by simp)).und
        obtain ⟨k1, k2⟩ := kn_td (stOK_kn hst)
        have hb := run_bounds (P := P) (w := w) (sl := false) (n := n) (c := n) (lo := lo) (hi := hi) (mx := none) (kl := kl) (kh := kh) (km := km) (Nat.le_refl _) ho.1 ho.2.1 ho.2.2 (Int.le_refl _) (by simp)
        have hca : CellsAt E.Γ b (o + off) ((ds.drop off).take (D.arr n q).sz) := by
          intro j v hv
          have hj : j < (D.arr n q).sz := by
            have := (List.getElem?_eq_some_iff.1 hv).1
            simp at this; omega
          rw [List.getElem?_take_of_lt hj, List.getElem?_drop] at hv
          rw [Nat.add_assoc]; exact hc _ _ hv
        obtain ⟨h3, h4, _⟩ := Sq.cut_ok (A := A) hsq ho.1 ho.2.1 (by rw [hlen]; exact ho.2.2)
        refine ⟨.slice (some (if n = (lo.getD 0).toNat then ⟨b, o + off, none⟩ else ⟨b, o + off + (lo.getD 0).toNat * (X.td e).size, none⟩)) ((hi.getD n).toNat - (lo.getD 0).toNat) (n - (lo.getD 0).toNat), ?_, rv_sl.2 ⟨_, h3, ?_⟩⟩
        · simp only [Instr.sliceAt, Sem.run_bind, run_und_raw hu2, Result.andThen_ok, Instr.sureAddr, Sem.run_pure, hb, run_sizeOf hX rfl k1 k2, Option.getD_none, Int.toNat_natCast, addr_add]
        · rw [h4]
          have := slAt_cut (l := (lo.getD 0).toNat) (h := (hi.getD n).toNat) (m := n) (sz := (X.td e).size) (n := n) (c := n) (a := some ⟨b, o + off, none⟩) hsq (.inl ⟨b, o + off, n, by rw [hlen], by rw [hlen]; exact Nat.le_refl _, hca⟩) hsz (by omega) (by omega) (by omega) rfl (Nat.le_refl _)
          have e1 : (hi.getD ↑n - lo.getD 0).toNat = (hi.getD ↑n).toNat - (lo.getD 0).toNat := by omega
          rw [e1]
          split at this <;> rename_i hh
          · rw [if_pos hh]; exact this
          · rw [if_neg hh]; simpa [addr_add] using this
      · cases h
    · cases h
  · cases h

end
end Go.Sk
