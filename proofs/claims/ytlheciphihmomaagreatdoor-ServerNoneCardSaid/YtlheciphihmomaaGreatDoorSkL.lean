/- Sk, part L: addresses of fields and elements; parts of values. -/
import Derived.Test.YtlheciphihmomaaGreatDoorSkK
set_option linter.all false
namespace Go.Sk
open Go

section
variable {X : Tb} {P : Program} {E : Env} {V : List AO} {w w' : World} {A : Ari}

theorem offT_snoc : ∀ {p : List PE} {t u o : Nat} (q : List PE) {o' : Nat}, offT X p t = some o → tyAt X p t = some u → offT X q u = some o' → offT X (p ++ q) t = some (o + o')
  | [], t, u, o, q, o', h, hu, hq => by
    simp only [offT, Option.some.injEq] at h; simp only [tyAt, Option.some.injEq] at hu; subst h hu
    simpa using hq
  | .f n :: p, t, u, o, q, o', h, hu, hq => by
    simp only [offT] at h
    split at h
    · rename_i sz fs htd
      split at h
      · rename_i hn
        simp only [Option.map_eq_some_iff] at h
        obtain ⟨o1, h1, rfl⟩ := h
        have hb : Nat.blt n (llen fs) = true := by rw [llen_eq, Nat.blt_eq]; exact hn
        simp only [tyAt, htd, hb, if_true] at hu
        have := offT_snoc q h1 hu hq
        simp only [List.cons_append, offT, htd, hn, if_true, this, Option.map_some, Nat.add_assoc]
      · cases h
    · cases h
  | .i j :: p, t, u, o, q, o', h, hu, hq => by
    simp only [offT] at h
    split at h
    · rename_i sz m e htd
      split at h
      · rename_i hj
        simp only [Option.map_eq_some_iff] at h
        obtain ⟨o1, h1, rfl⟩ := h
        simp only [tyAt, htd] at hu
        split at hu
        · have := offT_snoc q h1 hu hq
          simp only [List.cons_append, offT, htd]
          rw [if_pos hj, this]; simp [Nat.add_assoc]
        · cases hu
      · cases h
    · cases h

theorem tyAt_snoc : ∀ {p : List PE} {t u : Nat} (q : List PE), tyAt X p t = some u → tyAt X (p ++ q) t = tyAt X q u
  | [], t, u, q, h => by simp only [tyAt, Option.some.injEq] at h; subst h; rfl
  | .f n :: p, t, u, q, h => by
    cases htd : X.td t <;> simp only [List.cons_append, tyAt, htd] at h ⊢ <;> first | (cases h; done) | skip
    split at h
    · rename_i hb; rw [if_pos hb]; exact tyAt_snoc q h
    · cases h
  | .i j :: p, t, u, q, h => by
    cases htd : X.td t <;> simp only [List.cons_append, tyAt, htd] at h ⊢ <;> first | (cases h; done) | skip
    split at h
    · rename_i hb; rw [if_pos hb]; exact tyAt_snoc q h
    · cases h

theorem offD_snoc : ∀ {p : List PE} {x : D} {o : Nat} (q : List PE) {o' : Nat}, offD p x = some o → offD q (getPD A p x) = some o' → offD (p ++ q) x = some (o + o')
  | [], x, o, q, o', h, hq => by
    simp only [offD, Option.some.injEq] at h; subst h
    simpa [getPD] using hq
  | .f n :: p, x, o, q, o', h, hq => by
    cases x <;> simp only [offD] at h <;> first | (cases h; done) | skip
    split at h
    · rename_i hn
      simp only [Option.map_eq_some_iff] at h
      obtain ⟨o1, h1, rfl⟩ := h
      simp only [getPD] at hq
      have := offD_snoc q h1 hq
      simp only [List.cons_append, offD, hn, if_true, this, Option.map_some, Nat.add_assoc]
    · cases h
  | .i j :: p, x, o, q, o', h, hq => by
    cases x <;> simp only [offD] at h <;> first | (cases h; done) | skip
    split at h
    · rename_i hj
      simp only [Option.map_eq_some_iff] at h
      obtain ⟨o1, h1, rfl⟩ := h
      simp only [getPD, Sq.get_at] at hq
      have := offD_snoc q h1 hq
      simp only [List.cons_append, offD]
      rw [if_pos hj, this]; simp [Nat.add_assoc]
    · cases h

theorem getPD_snoc : ∀ {p : List PE} {x : D} {o : Nat} (q : List PE), offD p x = some o → getPD A (p ++ q) x = getPD A q (getPD A p x)
  | [], x, o, q, h => by simp [getPD]
  | .f n :: p, x, o, q, h => by
    cases x <;> simp only [offD] at h <;> first | (cases h; done) | skip
    split at h
    · simp only [Option.map_eq_some_iff] at h
      obtain ⟨o1, h1, rfl⟩ := h
      simp only [List.cons_append, getPD, getPD_snoc q h1]
    · cases h
  | .i j :: p, x, o, q, h => by
    cases x <;> simp only [offD] at h <;> first | (cases h; done) | skip
    split at h
    · simp only [Option.map_eq_some_iff] at h
      obtain ⟨o1, h1, rfl⟩ := h
      simp only [List.cons_append, getPD, Sq.get_at]; exact getPD_snoc q h1
    · cases h

/-- A struct type's field, as the machine has it. -/
theorem field_of (hX : TbOK X P) {s f : Nat} (h : hasF X s f = true) : ∃ sz fs fields fl, X.td s = .strct sz fs ∧ f < fs.length ∧ P.underlying s = some (.struct fields) ∧ fields[f]? = some fl ∧
    fl.type = lget fs f ∧ fl.offset = sumSz X fs f ∧ 0 < (X.td (lget fs f)).size ∧ kn X (lget fs f) = true := by
  unfold hasF at h
  split at h
  · rename_i sz fs htd
    simp only [Bool.and_eq_true, Nat.blt_eq, llen_eq] at h
    obtain ⟨⟨h1, h2⟩, h3⟩ := h
    obtain ⟨u, hu, fields, rfl, hm, ho, _⟩ := (hX.known htd (by simp) (by simp)).und
    have hlen : fields.size = fs.length := by rw [← hm]; simp
    have hlt : f < fields.size := by omega
    refine ⟨sz, fs, fields, fields[f], htd, h1, hu, by simp [hlt], ?_, ho f _ (by simp [hlt]), h2, h3⟩
    have := lget_some (l := fs) h1
    rw [← hm] at this
    simp [hlt] at this
    rw [this, hm]
  · cases h

theorem fieldAt_run (hX : TbOK X P) {s f b o : Nat} {sz : Nat} {fs : List Nat} {fields : Array Field} {fl : Field} (hu : P.underlying s = some (.struct fields)) (hfl : fields[f]? = some fl)
    (ht : fl.type = lget fs f) (ho : fl.offset = sumSz X fs f) (hpos : 0 < (X.td (lget fs f)).size) (hk : kn X (lget fs f) = true) :
    (Instr.fieldAt s (.pointer (some ⟨b, o, none⟩)) f).run P w = .ok (.pointer (some ⟨b, o + sumSz X fs f, none⟩)) w := by
  obtain ⟨k1, k2⟩ := kn_td hk
  have hs := run_sizeOf (w := w) hX rfl k1 k2
  rw [← ht] at hs hpos
  simp only [Instr.fieldAt, Sem.run_bind, run_und_raw hu, Result.andThen_ok, hfl, Instr.sureAddr, Sem.run_pure, fieldPlace, hs]
  rw [if_neg (by omega)]
  simp only [Sem.run_pure, Result.andThen_ok, addr_add, ho]

theorem offT_f {t sz n : Nat} {fs : List Nat} (h : X.td t = .strct sz fs) (hn : n < fs.length) : offT X [.f n] t = some (sumSz X fs n) := by
  simp only [offT, h, hn, if_true, Option.map_some, Nat.add_zero]

theorem fieldAddr_ptr (hX : TbOK X P) (hi : Inv X P E V w) {r s f u : Nat} {p : List PE} {v : AV} {y : Value} (hV : lget V r = .blk u v) (hty : tyIs X p u s = true) (hf : hasF X s f = true)
    (ha : RV0 X E (.ptr r p) y) : ∃ z, (Instr.fieldAt s y f).run P w = .ok z w ∧ RV0 X E (.ptr r (p ++ [.f f])) z := by
  rw [rv_of_scalar rfl] at ha; simp only [R] at ha
  obtain ⟨b, t0, o, hy, hg, ho⟩ := ha
  simp only [List.cons.injEq, and_true] at hy; subst hy
  obtain ⟨b', hb, _⟩ := hi.blk hV hg
  simp only [Gh.blk.injEq] at hb; obtain ⟨rfl, rfl⟩ := hb
  obtain ⟨sz, fs, fields, fl, htd, hlt, hu, hfl, h1, h2, h3, h4⟩ := field_of hX hf
  obtain ⟨t', ht', hs, hk⟩ := tyIs_some hty
  refine ⟨_, fieldAt_run (sz := sz) hX hu hfl h1 h2 h3 h4, (rv_of_scalar rfl).2 ?_⟩
  simp only [R]
  exact ⟨b, _, _, rfl, hg, offT_snoc [.f f] ho ht' (offT_f (by rw [sameT_td hX hs, htd]) hlt)⟩

theorem fieldAddr_ep (hX : TbOK X P) (hi : Inv X P E V w) {r g s f e : Nat} {i : Int} {p : List PE} {q : Sq D} {y : Value} (hV : lget V r = .arr e q g) (hty : tyIs X p e s = true) (hf : hasF X s f = true)
    (ha : RV0 X E (.ep r g i p) y) : ∃ z, (Instr.fieldAt s y f).run P w = .ok z w ∧ RV0 X E (.ep r g i (p ++ [.f f])) z := by
  rw [rv_of_scalar rfl] at ha; simp only [R] at ha
  obtain ⟨b, e0, g0, n, cap, y', hy, _, hg, hle, hgo⟩ := ha
  simp only [List.cons.injEq, and_true] at hy; subst hy
  obtain ⟨b', cap', hb, _⟩ := hi.arr hV hg
  simp only [Gh.arr.injEq] at hb; obtain ⟨rfl, rfl, rfl, rfl, rfl⟩ := hb
  obtain ⟨h0, h1', o, ho, rfl⟩ := hgo rfl
  obtain ⟨sz, fs, fields, fl, htd, hlt, hu, hfl, h1, h2, h3, h4⟩ := field_of hX hf
  obtain ⟨t', ht', hs, hk⟩ := tyIs_some hty
  refine ⟨_, fieldAt_run (sz := sz) hX hu hfl h1 h2 h3 h4, (rv_of_scalar rfl).2 ?_⟩
  simp only [R]
  exact ⟨b, _, _, _, _, _, rfl, rfl, hg, hle, fun _ => ⟨h0, h1', _, offT_snoc [.f f] ho ht' (offT_f (by rw [sameT_td hX hs, htd]) hlt), by rw [Nat.add_assoc]⟩⟩

theorem fieldAddr_pd (hX : TbOK X P) {s f : Nat} {x : D} {p : List PE} {y : Value} (hfit : fits X s (.d (getPD A p x)) = true) (hf : hasF X s f = true)
    (ha : RV0 X E (.pd x p) y) : ∃ z, (Instr.fieldAt s y f).run P w = .ok z w ∧ RV0 X E (.pd x (p ++ [.f f])) z := by
  rw [rv_of_scalar rfl] at ha; simp only [R] at ha
  obtain ⟨b, o, ds, off, hy, hd, hc, hoff⟩ := ha
  simp only [List.cons.injEq, and_true] at hy; subst hy
  obtain ⟨sz, fs, fields, fl, htd, hlt, hu, hfl, h1, h2, h3, h4⟩ := field_of hX hf
  have hF := fits_Fit hfit
  obtain ⟨l, hl | ⟨l', hl⟩⟩ := hF.td_strct htd
  · cases hl
  · simp only [AV.d.injEq] at hl
    have hF' := hF
    rw [hl] at hF'
    obtain ⟨sz', fs', h5, h6, h7⟩ := hF'.dagg
    rw [htd] at h5; cases h5
    have hs : sumD l' f = sumSz X fs f := by
      rw [← sumAV_eq]
      refine sumSz_all (l'.map .d) fs (by simpa using h6) (fun i hi => ?_) f (by simp; omega)
      rw [lget_map _ _ _ (by simpa using hi)]
      exact Fit.szDs hX l' fs h7 i (by simpa using hi)
    refine ⟨_, fieldAt_run (sz := sz) hX hu hfl h1 h2 h3 h4, (rv_of_scalar rfl).2 ?_⟩
    simp only [R]
    refine ⟨b, o, ds, off + sumSz X fs f, by rw [Nat.add_assoc], hd, hc, offD_snoc (A := A) [.f f] hoff ?_⟩
    rw [hl]; simp only [offD]
    rw [if_pos (by omega)]; simp [hs]

/-! ### Elements -/
theorem indexAt_slice (hX : TbOK X P) {t e b o n cap : Nat} {k : IntKind} {i : Int} (ht : X.td t = .sl e) (hk : kn X e = true) (h0 : 0 ≤ i) (h1 : i < (n : Int)) :
    (Instr.indexAt t (.slice (some ⟨b, o, none⟩) n cap) (.int k i)).run P w = .ok (.pointer (some ⟨b, o + i.toNat * (X.td e).size, none⟩)) w := by
  obtain ⟨u, hu, rfl⟩ := (hX.known ht (by simp) (by simp)).und
  obtain ⟨k1, k2⟩ := kn_td hk
  simp [Instr.indexAt, asIntOf, run_und_raw hu, h0, h1, run_sizeOf hX rfl k1 k2, addr_add]

theorem indexAt_array (hX : TbOK X P) {t e b o n sz : Nat} {k : IntKind} {i : Int} (ht : X.td t = .arr sz n e) (hk : kn X e = true) (h0 : 0 ≤ i) (h1 : i < (n : Int)) :
    (Instr.indexAt t (.pointer (some ⟨b, o, none⟩)) (.int k i)).run P w = .ok (.pointer (some ⟨b, o + i.toNat * (X.td e).size, none⟩)) w := by
  obtain ⟨u, hu, rfl, _⟩ := (hX.known ht (by simp) (by simp)).und
  obtain ⟨k1, k2⟩ := kn_td hk
  simp [Instr.indexAt, Instr.sureAddr, asIntOf, run_und_raw hu, h0, h1, run_sizeOf hX rfl k1 k2, addr_add]

/-- A pointer to an element of fast memory. -/
theorem pd_elem (hX : TbOK X P) {e b o : Nat} {q : Sq D} {ds : List Value} {i : Int} (hst : stOK X e q = true) (hr : SqR E.Γ q ds) (hc : CellsAt E.Γ b o ds) (h0 : 0 ≤ i) (h1 : i < (q.length : Int)) :
    RV0 X E (.pd (q.get A i) []) (.pointer (some ⟨b, o + i.toNat * (X.td e).size, none⟩)) := by
  have hlt : i.toNat < q.length := by omega
  obtain ⟨h2, h3, h4⟩ := SqR.get hr i.toNat hlt
  have hsz := stOK_size hX hst
  rw [rv_of_scalar rfl]; simp only [R, Sq.get_at]
  refine ⟨b, o + i.toNat * q.st, _, 0, by rw [hsz]; rfl, h2, ?_, rfl⟩
  intro j v hv
  have hj : j < q.st := by
    have := (List.getElem?_eq_some_iff.1 hv).1
    simp at this; omega
  rw [List.getElem?_take_of_lt hj, List.getElem?_drop] at hv
  rw [Nat.add_assoc]; exact hc _ _ hv

/-- A slice with an element isn't nil. -/
theorem SlAt.some {Γ : Gam} {v : Value} {n : Nat} {ds : List Value} (h : SlAt Γ v n ds) (hn : 0 < n) : ∃ b o cap, v = .slice (some ⟨b, o, none⟩) n cap ∧ n ≤ cap ∧ CellsAt Γ b o ds := by
  rcases h with h | ⟨_, _, rfl⟩
  · exact h
  · omega

/-- What a slice of closed data is. -/
theorem rv_sl {q : Sq D} {y : Value} : RV0 X E (.d (.sl q)) y ↔ ∃ ds, SqR E.Γ q ds ∧ SlAt E.Γ y q.length ds := by
  rw [rv_of_scalar rfl]; simp only [R, DRel]
  constructor
  · rintro ⟨v, ds, h, h1, h2⟩; simp only [List.cons.injEq, and_true] at h; subst h; exact ⟨ds, h1, h2⟩
  · rintro ⟨ds, h1, h2⟩; exact ⟨y, ds, rfl, h1, h2⟩
theorem rv_slx {q : Sq D} {y : Value} : RV0 X E (.d (.slx q)) y ↔ ∃ ds, SqR E.Γ q ds ∧ SlAt E.Γ y q.length ds ∧ capOf y = q.length := by
  rw [rv_of_scalar rfl]; simp only [R, DRel]
  constructor
  · rintro ⟨v, ds, h, h1, h2⟩; simp only [List.cons.injEq, and_true] at h; subst h; exact ⟨ds, h1, h2⟩
  · rintro ⟨ds, h1, h2⟩; exact ⟨y, ds, rfl, h1, h2⟩
theorem rv_slt {q : Sq D} {r e : Nat} {y : Value} : RV0 X E (.slt q r e) y ↔ ∃ ds τ c, SqR E.Γ q ds ∧ SlAt E.Γ y q.length ds ∧ E.ρ[r]? = some (.tok τ c) ∧ e ≤ c ∧
      (capOf y = q.length ∨ ∃ b o cap o' cc, y = .slice (some ⟨b, o, none⟩) q.length cap ∧ τ e = some (b, o', cc) ∧ o + q.length * q.st = o' ∧ o + cap * q.st = cc) := by
  rw [rv_of_scalar rfl]; simp only [R]
  constructor
  · rintro ⟨v, ds, τ, c, h, h1, h2⟩; simp only [List.cons.injEq, and_true] at h; subst h; exact ⟨ds, τ, c, h1, h2⟩
  · rintro ⟨ds, τ, c, h1, h2⟩; exact ⟨y, ds, τ, c, rfl, h1, h2⟩

theorem ixAddr_ok (hX : TbOK X P) (hi : Inv X P E V w) {t : Nat} {vx x : AV} {i : Int} {k : IntKind} {y : Value} {ob : List Bool} {g : Bool} (h : ixAddr A X V t vx i = some (x, ob, g)) (ho : Obl ob)
    (hx : RV0 X E vx y) : ∃ z, (Instr.indexAt t y (.int k i)).run P w = .ok z w ∧ RV0 X E x z := by
  unfold ixAddr at h
  split at h
  · rename_i e htd
    split at h
    · rename_i q
      split at h
      · rename_i hst
        simp only [Option.some.injEq, Prod.mk.injEq] at h; obtain ⟨rfl, rfl, rfl⟩ := h
        simp only [Obl, A.inb_eq, and_true, Sq.len_eq] at ho
        obtain ⟨ds, h1, h2⟩ := rv_sl.1 hx
        obtain ⟨b, o, cap, rfl, hcap, hc⟩ := h2.some (by omega)
        exact ⟨_, indexAt_slice hX htd (stOK_kn hst) ho.1 ho.2, pd_elem hX hst h1 hc ho.1 ho.2⟩
      · cases h
    · rename_i q
      split at h
      · rename_i hst
        simp only [Option.some.injEq, Prod.mk.injEq] at h; obtain ⟨rfl, rfl, rfl⟩ := h
        simp only [Obl, A.inb_eq, and_true, Sq.len_eq] at ho
        obtain ⟨ds, h1, h2, _⟩ := rv_slx.1 hx
        obtain ⟨b, o, cap, rfl, hcap, hc⟩ := h2.some (by omega)
        exact ⟨_, indexAt_slice hX htd (stOK_kn hst) ho.1 ho.2, pd_elem hX hst h1 hc ho.1 ho.2⟩
      · cases h
    · rename_i q r n
      split at h
      · rename_i hst
        simp only [Option.some.injEq, Prod.mk.injEq] at h; obtain ⟨rfl, rfl, rfl⟩ := h
        simp only [Obl, A.inb_eq, and_true, Sq.len_eq] at ho
        obtain ⟨ds, τ, c, h1, h2, _⟩ := rv_slt.1 hx
        obtain ⟨b, o, cap, rfl, hcap, hc⟩ := h2.some (by omega)
        exact ⟨_, indexAt_slice hX htd (stOK_kn hst) ho.1 ho.2, pd_elem hX hst h1 hc ho.1 ho.2⟩
      · cases h
    · rename_i r gn off len
      split at h
      · rename_i e' q g' hV
        split at h
        · rename_i hc0
          simp only [Bool.and_eq_true, beq_iff_eq] at hc0
          obtain ⟨rfl, hs⟩ := hc0
          simp only [Option.some.injEq, Prod.mk.injEq] at h; obtain ⟨rfl, rfl, rfl⟩ := h
          simp only [Obl, A.inb_eq, and_true] at ho
          rw [rv_of_scalar rfl] at hx; simp only [R] at hx
          obtain ⟨b, e0, g0, n, cap, y', hy, hone, hg, hle, hgo⟩ := hx
          simp only [List.cons.injEq, and_true] at hy; subst hy
          obtain ⟨b', cap', hb, hcap, hst, _⟩ := hi.arr hV hg
          simp only [Gh.arr.injEq] at hb; obtain ⟨rfl, rfl, rfl, rfl, rfl⟩ := hb
          obtain ⟨h0, h1, h2, bo, rfl, hbo⟩ := hgo rfl
          have htde := sameT_td hX hs
          have := hbo (by omega); subst this
          have hke : kn X e = true := by rw [← kn_eq htde]; exact stOK_kn hst
          refine ⟨_, indexAt_slice hX htd hke ho.1 (by omega), (rv_of_scalar rfl).2 ?_⟩
          simp only [R, A.plus_eq]
          refine ⟨b, _, _, _, _, _, rfl, rfl, hg, Nat.le_refl _, fun _ => ⟨by omega, by omega, 0, rfl, ?_⟩⟩
          rw [← htde, Int.toNat_add h0 ho.1, Nat.add_mul]; rfl
        · cases h
      · cases h
    · rename_i r p lo hh
      split at h
      · rename_i u v hV
        split at h
        · rename_i hty
          simp only [Option.some.injEq, Prod.mk.injEq] at h; obtain ⟨rfl, rfl, rfl⟩ := h
          simp only [Obl, A.inb_eq, and_true, A.minus_eq] at ho
          rw [rv_of_scalar rfl] at hx; simp only [R] at hx
          obtain ⟨b, t0, o, u', sz, n, e', bo, hy, hg, hu', htd', hof, hlo, hlh, hhn, hbo⟩ := hx
          simp only [List.cons.injEq, and_true] at hy; subst hy
          obtain ⟨b', hb, _⟩ := hi.blk hV hg
          simp only [Gh.blk.injEq] at hb; obtain ⟨rfl, rfl⟩ := hb
          obtain ⟨t', ht', hs, hk⟩ := tyIs_some hty
          have := hbo (by omega); subst this
          have hte : X.td e' = X.td e := by
            have hh2 : tyAt X (p ++ [.i 0]) t0 = some t' := ht'
            rw [tyAt_snoc _ hu'] at hh2
            simp only [tyAt, htd'] at hh2
            split at hh2
            · simp only [Option.some.injEq] at hh2; rw [hh2]; exact sameT_td hX hs
            · cases hh2
          have hko : offT X [.i (lo + i)] u' = some ((lo + i).toNat * (X.td e').size) := by
            simp only [offT, htd']
            rw [if_pos ⟨by omega, by omega⟩]; rfl
          refine ⟨_, indexAt_slice hX htd hk ho.1 (by omega), (rv_of_scalar rfl).2 ?_⟩
          simp only [R, A.plus_eq]
          refine ⟨b, _, _, ?_, hg, offT_snoc _ hof hu' hko⟩
          rw [← hte, Int.toNat_add hlo ho.1, Nat.add_mul, Nat.add_assoc]
        · cases h
      · cases h
    · cases h
  · rename_i sz n e htd
    split at h
    · rename_i r p
      split at h
      · rename_i u v hV
        split at h
        · rename_i hty
          simp only [Bool.and_eq_true] at hty
          obtain ⟨⟨hty, hk⟩, hsc⟩ := hty
          simp only [Option.some.injEq, Prod.mk.injEq] at h; obtain ⟨rfl, rfl, rfl⟩ := h
          simp only [Obl, A.inb_eq, and_true] at ho
          rw [rv_of_scalar rfl] at hx; simp only [R] at hx
          obtain ⟨b, t0, o, hy, hg, hof⟩ := hx
          simp only [List.cons.injEq, and_true] at hy; subst hy
          obtain ⟨b', hb, _⟩ := hi.blk hV hg
          simp only [Gh.blk.injEq] at hb; obtain ⟨rfl, rfl⟩ := hb
          obtain ⟨t', ht', hs, _⟩ := tyIs_some hty
          have htd' := sameT_td hX hs
          refine ⟨_, indexAt_array hX htd hk ho.1 ho.2, (rv_of_scalar rfl).2 ?_⟩
          simp only [R]
          refine ⟨b, _, _, rfl, hg, offT_snoc _ hof ht' ?_⟩
          simp only [offT, htd', htd]
          rw [if_pos ho]; rfl
        · cases h
      · cases h
    · rename_i d p
      split at h
      · rename_i n' q hq
        split at h
        · rename_i hc0
          simp only [Bool.and_eq_true, beq_iff_eq] at hc0
          obtain ⟨rfl, hst⟩ := hc0
          simp only [Option.some.injEq, Prod.mk.injEq] at h; obtain ⟨rfl, rfl, rfl⟩ := h
          simp only [Obl, A.inb_eq, and_true] at ho
          rw [rv_of_scalar rfl] at hx; simp only [R] at hx
          obtain ⟨b, o, ds, off, hy, hd, hc, hoff⟩ := hx
          simp only [List.cons.injEq, and_true] at hy; subst hy
          refine ⟨_, indexAt_array hX htd (stOK_kn hst) ho.1 ho.2, (rv_of_scalar rfl).2 ?_⟩
          simp only [R]
          refine ⟨b, o, ds, off + i.toNat * (X.td e).size, by rw [Nat.add_assoc], hd, hc, offD_snoc (A := A) _ hoff ?_⟩
          rw [hq]; simp only [offD]
          rw [if_pos ho, stOK_size hX hst]; rfl
        · cases h
      · cases h
    · cases h
  · cases h

end
end Go.Sk
