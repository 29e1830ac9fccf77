/- Sk, part Q: append and copy, whole. -/
import Derived.Test.YtlheciphihmomaaGreatDoorSkP
set_option linter.all false
namespace Go.Sk
open Go

section
variable {X : Tb} {P : Program} {E : Env} {V : List AO} {w w' : World} {A : Ari}

theorem room_63 {n by_ : Nat} (h : (n : Int) * (by_ : Int) ≤ 2 ^ 47) (hb : 0 < by_) : (n : Int) ≤ 9223372036854775807 := by
  have h1 : n * 1 ≤ n * by_ := Nat.mul_le_mul_left _ hb
  have h2 : ((n * by_ : Nat) : Int) ≤ 2 ^ 47 := by rw [Int.natCast_mul]; exact h
  omega

theorem emptySq_len {e : Nat} : (emptySq X e).length = 0 := by unfold emptySq; split <;> rfl
theorem emptySq_rel {Γ : Gam} {e : Nat} : SqR Γ (emptySq X e) [] := by unfold emptySq; split <;> simp [SqR, DsRel, D.shsAll]

theorem rho_new {α : Type} (ρ : List α) (g : α) : (ρ ++ [g])[ρ.length]? = some g := by simp
theorem rho_set {α : Type} {ρ : List α} {r : Nat} {g : α} (h : r < ρ.length) : (ρ.set r g)[r]? = some g := by simp [h]

theorem append_take {α : Type} (ds rest : List α) : (ds ++ rest).take ds.length = ds := by simp

/-- The operand's slice, closed or nil, going over into a new array (or staying as it is, if nothing is added). -/
theorem append_fresh (hX : TbOK X P) (hi : Inv X P E V w) {t e u ty : Nat} (ht : X.td t = .sl e) (hu : srcT P u) {q m q' : Sq D} {vy : AV} {yx yy : Value} {dq : List Value}
    (hst : stOK X e q = true) (hby : 0 < X.bytes e) (hm : seqOf A X V e vy = some m) (hy : RV0 X E vy yy) (happ : q.app A m = some q') (hroom : ((q.length + m.length : Nat) : Int) * (X.bytes e : Int) ≤ 2 ^ 47)
    (hq : SqR E.Γ q dq) (hs : SlAt E.Γ yx q.length dq) (hcap : capOf yx = q.length) :
    ∃ z w' E', (Builtin.append_ #[t, u] ty #[yx, yy]).run P w = .ok z w' ∧ RV0 X E' (.slt q' (llen V) 0) z ∧ Inv X P E' (V ++ [.grow 0]) w' ∧ Ext E w E' w' := by
  have hk := stOK_kn hst
  have hsz := stOK_size hX hst
  obtain ⟨dm, hmr, hreads⟩ := seqOf_ok hX hi hm hy
  have hidrew := hi.of_heap (w' := w.drew) rfl
  obtain ⟨dm', hmr', hreads'⟩ := seqOf_ok hX hidrew hm hy
  obtain ⟨hqr', hql, hkd, hkdm⟩ := Sq.app_ok happ hq hmr
  have hmst : m.st = (X.td e).size := by rw [Sq.kd_st hkdm, hsz]
  rw [hmst] at hreads hreads'
  have hdml := SqR.len _ _ hmr
  rw [hmst] at hdml
  have hdml' := SqR.len _ _ hmr'
  rw [hmst] at hdml'
  have hdql := SqR.len _ _ hq
  rw [hsz] at hdql
  obtain ⟨a, c, hyx, hnc⟩ := slAt_shape hs
  have hcc : c = q.length := by rw [hyx] at hcap; exact hcap
  subst hcc
  by_cases hm0 : m.length = 0
  · -- nothing is added
    have hdm0 : dm = [] := List.eq_nil_of_length_eq_zero (by rw [hdml, hm0]; simp)
    obtain ⟨h1, h2⟩ := hi.addTok0
    refine ⟨yx, w, _, ?_, ?_, h1, h2⟩
    rotate_left
    refine rv_slt.2 ⟨dq ++ dm, fun _ => none, 0, hqr', ?_, by rw [llen_eq, ← hi.len]; exact rho_new _ _, Nat.le_refl _, .inl ?_⟩
    rotate_right
    · rw [hyx]
      rw [hm0] at hreads
      cases a with
      | none => exact run_append_none hX ht hk hu hreads (Nat.le_refl _)
      | some a =>
        rw [run_append_room hX ht hk hu (n := q.length) (c := q.length) hreads (by rw [hdml, hm0]) (by omega), hdm0]
        simp [storeCells]
    · rw [hdm0, List.append_nil, hql, hm0]; exact hs
    · rw [hyx, capOf_slice, hql, hm0]; first | rfl | simp
  · -- a new array
    have hfo : (Builtin.firstCells (X.td e).size q.length (.slice a q.length q.length)).run P w.drew = .ok dq.toArray w.drew := by
      have hr := reads_slAt (P := P) (w := w.drew) (Γ := E.Γ) (fun b o v hv => hidrew.fast b o v hv) hs (by rw [hdql])
      have := hr.first q.length (Nat.le_refl _)
      rw [← hdql, List.take_length, hyx] at this; exact this
    obtain ⟨cap, rest, hcap1, hrest, hrun⟩ := run_append_grown (ty := ty) hX ht hk hu (a := a) (n := q.length) (c := q.length) hreads.len hreads' hdml' hfo hdql (by omega) hroom (room_63 hroom hby)
    obtain ⟨h1, h2⟩ := hi.addTok (cs := dq ++ dm') (rest := rest) (e := e)
    rw [hyx]
    refine ⟨_, _, _, hrun, ?_, h1, h2⟩
    refine rv_slt.2 ⟨dq ++ dm', _, 0, ?_, ?_, by rw [llen_eq, ← hi.len]; exact rho_new _ _, Nat.le_refl _, .inr ⟨w.heap.size, 0, cap, _, _, ?_, if_pos rfl, ?_, ?_⟩⟩
    · exact SqR.mono (Gam.add_old fun o _ _ => hi.noneAt (Nat.le_refl _)) _ _ (Sq.app_ok happ hq hmr').1
    · rw [hql]; exact .inl ⟨w.heap.size, 0, cap, rfl, hcap1, Gam.add_new⟩
    · rw [hql]
    · rw [hql, Sq.kd_st hkd, hsz, List.length_append, hdql, hdml', Nat.add_mul]; omega
    · rw [Sq.kd_st hkd, hsz, List.length_append, hdql, hdml', hrest, ← Nat.add_mul, ← Nat.add_mul, show q.length + m.length + (cap - (q.length + m.length)) = cap by omega, Nat.zero_add]

theorem appendAV_ok (hX : TbOK X P) (hi : Inv X P E V w) {t e u ty : Nat} (ht : X.td t = .sl e) (hu : srcT P u) {m : Sq D} {vx vy x : AV} {yx yy : Value} {V' : List AO} {ob : List Bool}
    (hm : seqOf A X V e vy = some m) (hy : RV0 X E vy yy) (h : appendAV A X V e vx m = some (x, V', ob)) (ho : Obl ob) (hx : RV0 X E vx yx) :
    ∃ z w' E', (Builtin.append_ #[t, u] ty #[yx, yy]).run P w = .ok z w' ∧ RV0 X E' x z ∧ Inv X P E' V' w' ∧ Ext E w E' w' := by
  unfold appendAV at h
  simp only at h
  split at h
  · -- nil
    split at h
    · rename_i q1 happ
      split at h
      · rename_i hc0
        simp only [Bool.and_eq_true, Nat.blt_eq] at hc0
        obtain ⟨hst, hby⟩ := hc0
        simp only [Option.some.injEq, Prod.mk.injEq] at h; obtain ⟨rfl, rfl, rfl⟩ := h
        simp only [Obl, A.room_eq, Sq.len_eq, and_true] at ho
        rw [rv_nils] at hx; subst hx
        obtain ⟨dm, hmr, _⟩ := seqOf_ok hX hi hm hy
        obtain ⟨_, _, hkd, hkdm⟩ := Sq.app_ok happ emptySq_rel hmr
        have hst0 : stOK X e (emptySq X e) = true := Sq.kd_ok hkdm hst
        have hroom : (((emptySq X e).length + m.length : Nat) : Int) * (X.bytes e : Int) ≤ 2 ^ 47 := by rw [emptySq_len, Nat.zero_add]; exact ho
        obtain ⟨z, w', E', h1, h2, h3, h4⟩ := append_fresh (ty := ty) hX hi ht hu hst0 hby hm hy happ hroom emptySq_rel (.inr ⟨_, rfl, emptySq_len⟩) (by rw [emptySq_len]; rfl)
        refine ⟨z, w', E', h1, ?_, h3, h4⟩
        have : q1 = m := by
          clear h1 h2 h3 h4 hroom hst0 hkd hkdm ho hst hmr hm
          unfold emptySq at happ
          split at happ <;> cases m <;> simp only [Sq.app] at happ <;> first | (cases happ; done) | skip
          · simp only [Option.some.injEq] at happ; subst happ; simp [A.app_eq]
          · split at happ
            · rename_i hk; have := ikEq_eq hk; subst this; simp only [Option.some.injEq] at happ; subst happ; simp [A.app_eq]
            · cases happ
          · simp only [Option.some.injEq] at happ; subst happ; simp [A.app_eq]
          · split at happ
            · rename_i hk; have := shq_eq _ _ hk; subst this; simp only [Option.some.injEq] at happ; subst happ; simp [A.app_eq]
            · cases happ
        rw [← this]; exact h2
      · cases h
    · cases h
  · -- closed, and no more
    rename_i q
    split at h
    · rename_i q1 happ
      split at h
      · rename_i hc0
        simp only [Bool.and_eq_true, Nat.blt_eq] at hc0
        obtain ⟨hst, hby⟩ := hc0
        simp only [Option.some.injEq, Prod.mk.injEq] at h; obtain ⟨rfl, rfl, rfl⟩ := h
        simp only [Obl, A.room_eq, A.plus_eq, Sq.len_eq, and_true] at ho
        obtain ⟨dq, hq, hs, hcap⟩ := rv_slx.1 hx
        exact append_fresh (ty := ty) hX hi ht hu hst hby hm hy happ (by rw [Int.natCast_add]; exact ho) hq hs hcap
      · cases h
    · cases h
  · -- with the right to grow
    rename_i q r k
    split at h
    · rename_i k' q1 hV happ
      split at h
      · rename_i hc0
        simp only [Bool.and_eq_true, Nat.blt_eq, beq_iff_eq] at hc0
        obtain ⟨⟨rfl, hst⟩, hby⟩ := hc0
        simp only [Option.some.injEq, Prod.mk.injEq] at h; obtain ⟨rfl, rfl, rfl⟩ := h
        simp only [Obl, A.room_eq, A.plus_eq, Sq.len_eq, and_true] at ho
        have hroom : ((q.length + m.length : Nat) : Int) * (X.bytes e : Int) ≤ 2 ^ 47 := by rw [Int.natCast_add]; exact ho
        obtain ⟨dq, τ, c, hq, hs, hg, hkc, htok⟩ := rv_slt.1 hx
        have hslot := hi.slot r _ _ hg (lget_there hV AO.ne_default_grow)
        simp only [SlotOK] at hslot
        obtain ⟨rfl, hslot⟩ := hslot
        have hk := stOK_kn hst
        have hsz := stOK_size hX hst
        obtain ⟨dm, hmr, hreads⟩ := seqOf_ok hX hi hm hy
        have hidrew := hi.of_heap (w' := w.drew) rfl
        obtain ⟨dm', hmr', hreads'⟩ := seqOf_ok hX hidrew hm hy
        obtain ⟨hqr', hql, hkd, hkdm⟩ := Sq.app_ok happ hq hmr
        have hmst : m.st = (X.td e).size := by rw [Sq.kd_st hkdm, hsz]
        rw [hmst] at hreads hreads'
        have hdml := SqR.len _ _ hmr
        rw [hmst] at hdml
        have hdml' := SqR.len _ _ hmr'
        rw [hmst] at hdml'
        have hdql := SqR.len _ _ hq
        rw [hsz] at hdql
        obtain ⟨a, cp, hyx, hnc⟩ := slAt_shape hs
        subst hyx
        have hltr : r < E.ρ.length := (List.getElem?_eq_some_iff.1 hg).1
        rw [lset_eq]
        by_cases hfit : q.length + m.length ≤ cp
        · -- there is room
          by_cases hm0 : m.length = 0
          · have hdm0 : dm = [] := List.eq_nil_of_length_eq_zero (by rw [hdml, hm0]; simp)
            have hsame : (Builtin.append_ #[t, u] ty #[.slice a q.length cp, yy]).run P w = .ok (.slice a q.length cp) w := by
              rw [hm0] at hreads
              cases a with
              | none => exact run_append_none hX ht hk hu hreads hnc
              | some a =>
                rw [run_append_room hX ht hk hu (n := q.length) (c := cp) hreads (by rw [hdml, hm0]) (by omega), hdm0]
                simp [storeCells]
            rcases htok with ht0 | ⟨b, o, cap, o', cc, hy0, hτ, ho1, ho2⟩
            · obtain ⟨h1, h2⟩ := hi.stayTok hg
              refine ⟨_, w, _, hsame, ?_, h1, h2⟩
              refine rv_slt.2 ⟨dq ++ dm, _, _, hqr', ?_, rho_set hltr, Nat.le_refl _, .inl ?_⟩
              · rw [hdm0, List.append_nil, hql, hm0]; exact hs
              · rw [hql, hm0]; exact ht0
            · simp only [Value.slice.injEq] at hy0
              obtain ⟨rfl, _, rfl⟩ := hy0
              obtain ⟨cs, hcs, hlen⟩ := hslot b o' cc hτ
              have hle : o' ≤ cc := by rw [← ho1, ← ho2]; exact Nat.add_le_add_left (Nat.mul_le_mul_right _ hnc) _
              obtain ⟨h1, h2⟩ := hi.growTok (news := []) hg hτ (.refl _ w) hcs hlen (by simpa using hle) (by simp)
              refine ⟨_, w, _, hsame, ?_, h1, h2⟩
              refine rv_slt.2 ⟨dq ++ dm, _, _, SqR.mono (Gam.add_old fun o h1 h2 => by simp at h2; omega) _ _ hqr', ?_, rho_set hltr, Nat.le_refl _, .inr ⟨b, o, cp, o', cc, by rw [hql, hm0]; rfl, by simp, ?_, ?_⟩⟩
              · rw [hdm0, List.append_nil, hql, hm0]
                exact hs.mono (Gam.add_old fun o h1 h2 => by simp at h2; omega)
              · rw [hql, hm0, Sq.kd_st hkd]; exact ho1
              · rw [Sq.kd_st hkd]; exact ho2
          · -- in place
            rcases htok with ht0 | ⟨b, o, cap, o', cc, hy0, hτ, ho1, ho2⟩
            · rw [capOf_slice] at ht0; omega
            · simp only [Value.slice.injEq] at hy0
              obtain ⟨rfl, _, rfl⟩ := hy0
              obtain ⟨cs, hcs, hlen⟩ := hslot b o' cc hτ
              have hend : o' + dm.length ≤ cc := by
                rw [hdml, ← ho1, ← ho2, hsz, Nat.add_assoc, ← Nat.add_mul]
                exact Nat.add_le_add_left (Nat.mul_le_mul_right _ hfit) _
              obtain ⟨w1, hrun, hkept, hcs1⟩ := run_storeCells (P := P) (b := b) (o := o') dm 0 w cs (SqR.one _ _ hmr) hcs (by omega)
              simp only [Nat.add_zero] at hkept hcs1
              obtain ⟨h1, h2⟩ := hi.growTok (news := dm) hg hτ hkept hcs1 (by simp only [List.length_append, List.length_take, List.length_drop]; omega) hend (by
                intro i v hv
                have hi := (List.getElem?_eq_some_iff.1 hv).1
                rw [List.append_assoc, List.getElem?_append_right (by simp; omega)]
                have e1 : o' + i - (cs.take o').length = i := by simp; omega
                rw [e1, List.getElem?_append_left hi]; exact hv)
              have haddr : Addr.add ⟨b, o, none⟩ (q.length * (X.td e).size) = ⟨b, o', none⟩ := by rw [addr_add, ← ho1, hsz]
              refine ⟨.slice (some ⟨b, o, none⟩) (q.length + m.length) cp, w1, _, ?_, ?_, h1, h2⟩
              rotate_left
              refine rv_slt.2 ⟨dq ++ dm, _, _, SqR.mono (Gam.add_old fun o h1 h2 => hi.noneOwn ⟨r, _, hg, b, o', cc, hτ, rfl, h1, by omega⟩) _ _ hqr', ?_, rho_set hltr, Nat.le_refl _, .inr ⟨b, o, cp, _, cc, by rw [hql], if_pos rfl, ?_, ?_⟩⟩
              rotate_right
              · rw [run_append_room hX ht hk hu (n := q.length) (c := cp) hreads hdml hfit, haddr, hrun]; rfl
              · rw [hql]
                refine .inl ⟨b, o, cp, rfl, hfit, ?_⟩
                have hold : CellsAt E.Γ b o dq := by
                  rcases hs with ⟨b2, o2, c2, hy2, _, hc2⟩ | ⟨_, hy2, hz2⟩
                  · simp only [Value.slice.injEq, Option.some.injEq, Addr.mk.injEq] at hy2
                    obtain ⟨⟨rfl, rfl, _⟩, _, _⟩ := hy2; exact hc2
                  · intro i v hv
                    have := (List.getElem?_eq_some_iff.1 hv).1
                    rw [hdql, hz2, Nat.zero_mul] at this; omega
                refine CellsAt.append (hold.mono (Gam.add_old fun o h1 h2 => hi.noneOwn ⟨r, _, hg, b, o', cc, hτ, rfl, h1, by omega⟩)) ?_
                rw [hdql, ← hsz, ho1]; exact Gam.add_new
              · rw [hql, Sq.kd_st hkd, hdml, ← ho1, hsz, Nat.add_mul]; omega
              · rw [Sq.kd_st hkd]; exact ho2
        · -- a new array
          have hfo : (Builtin.firstCells (X.td e).size q.length (.slice a q.length cp)).run P w.drew = .ok dq.toArray w.drew := by
            have hr := reads_slAt (P := P) (w := w.drew) (Γ := E.Γ) (fun b o v hv => hidrew.fast b o v hv) hs (by rw [hdql])
            have := hr.first q.length (Nat.le_refl _)
            rw [← hdql, List.take_length] at this; exact this
          obtain ⟨cap, rest, hcap1, hrest, hrun⟩ := run_append_grown (ty := ty) hX ht hk hu (a := a) (n := q.length) (c := cp) hreads.len hreads' hdml' hfo hdql (by omega) hroom (room_63 hroom hby)
          obtain ⟨h1, h2⟩ := hi.moveTok hg (cs := dq ++ dm') (rest := rest) (e := e)
          refine ⟨_, _, _, hrun, ?_, h1, h2⟩
          refine rv_slt.2 ⟨dq ++ dm', _, _, ?_, ?_, rho_set hltr, Nat.le_refl _, .inr ⟨w.heap.size, 0, cap, _, _, by rw [hql], if_pos rfl, ?_, ?_⟩⟩
          · exact SqR.mono (Gam.add_old fun o _ _ => hi.noneAt (Nat.le_refl _)) _ _ (Sq.app_ok happ hq hmr').1
          · rw [hql]; exact .inl ⟨w.heap.size, 0, cap, rfl, hcap1, Gam.add_new⟩
          · rw [hql, Sq.kd_st hkd, hsz, List.length_append, hdql, hdml', Nat.add_mul]; omega
          · rw [Sq.kd_st hkd, hsz, List.length_append, hdql, hdml', hrest, ← Nat.add_mul, ← Nat.add_mul, show q.length + m.length + (cap - (q.length + m.length)) = cap by omega, Nat.zero_add]
      · cases h
    · cases h
  · cases h

end
end Go.Sk
