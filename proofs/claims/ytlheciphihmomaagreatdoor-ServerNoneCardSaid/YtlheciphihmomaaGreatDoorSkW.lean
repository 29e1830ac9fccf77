/- Sk, part W: the other operations that hand back a value; all of them. -/
import Derived.Test.YtlheciphihmomaaGreatDoorSkVA
set_option linter.all false
namespace Go.Sk
open Go

section
variable {X : Tb} {P : Program} {E : Env} {V : List AO} {w w' : World} {A : Ari} {fr : List AV} {a : Act} {M : Mt}

theorem und_kn (hX : TbOK X P) {t : Nat} (hk : kn X t = true) : ∃ u, P.underlying t = some u ∧ DescOK X (X.td t) u := by
  obtain ⟨h1, h2⟩ := kn_td hk
  exact (hX.known rfl h1 h2).und

theorem told_convert (hX : TbOK X P) (hi : Inv X P E V w) (hf : FrOK X E fr a.tmps) {o : Oper} {s t : Nat} {u : Operand} (ho : o.op = .convert s t u) : Told X P A M E V w fr a o := by
  intro x V' ob h hb
  simp only [exec, ho] at h
  split at h
  · rename_i hk
    obtain ⟨us, hus, hds⟩ := und_kn hX hk
    split at h
    · -- numbers
      rename_i k k' n htd hv
      rcases h with h | h
      · simp only [OR.v.injEq] at h; obtain ⟨rfl, rfl, rfl⟩ := h
        have hr := ov_ok hf u hb; rw [hv, rv_int] at hr
        obtain ⟨ut, hut, hdt⟩ := (hX.known htd (by intro l h; cases h) (by intro h; cases h)).und
        simp only [DescOK] at hdt; subst hdt
        refine .same hi (y := .int k (k.wrap n)) (by simp only [execOp, ho, hr]; exact run_v (by simp [convert, run_underlying hus, run_underlying hut, Conv.intToInt])) (rv_int.2 (by rw [A.conv_eq]))
      · cases h
    · -- text to text
      rename_i l htd hv
      rcases h with h | h
      · simp only [OR.v.injEq] at h; obtain ⟨rfl, rfl, rfl⟩ := h
        have hr := ov_ok hf u hb; rw [hv, rv_str] at hr
        obtain ⟨ut, hut, hdt⟩ := (hX.known htd (by intro l h; cases h) (by intro h; cases h)).und
        simp only [DescOK] at hdt; subst hdt
        refine .same hi (y := .string ⟨l.toArray⟩) (by simp only [execOp, ho, hr]; exact run_v (by simp [convert, run_underlying hus, run_underlying hut])) (rv_str.2 rfl)
      · cases h
    · -- text to bytes
      rename_i e l hts htd hv
      split at h
      · rename_i hte
        have fin : Obl (oo A fr u) → _ := fun hb => bytesOf_ok (l := l) hX hi hts htd hte
        split at h
        all_goals
          rcases h with h | h
          · simp only [OR.v.injEq] at h; obtain ⟨rfl, rfl, rfl⟩ := h
            have hr := ov_ok hf u hb; rw [hv, rv_str] at hr
            obtain ⟨z, w', h1, ⟨E0, a0, b0, c0⟩, ⟨E1, a1, b1, c1⟩, ⟨E2, a2, b2, c2⟩⟩ := fin hb
            have h1' : (execOp a.eval o).run P w = .ok (.value z) w' := by simp only [execOp, ho, hr]; exact run_v h1
            first
            | exact .mk' h1' a0 b0 c0
            | exact .mk' h1' a1 b1 c1
            | (rw [A.len_eq]; exact .mk' h1' a2 b2 c2)
          · cases h
      · rcases h with h | h <;> cases h
    · rename_i e hts htd2 hne1
      split at h
      · rename_i hte
        split at h
        · rename_i l hl
          rcases h with h | h
          · simp only [OR.v.injEq] at h; obtain ⟨rfl, rfl, rfl⟩ := h
            have hr := ov_ok hf u hb
            exact .same hi (by simp only [execOp, ho]; exact run_v (textOf_ok hX hi hts htd2 hte hl hr (fun s' hs' => hne1 s' hs'))) (rv_str.2 rfl)
          · cases h
        · rcases h with h | h <;> cases h
      · rcases h with h | h <;> cases h
    · -- a literal of bytes: the mark
      rename_i e e2 r g off len hts htd hv
      split at h
      · rename_i hc0
        simp only [Bool.and_eq_true, beq_iff_eq] at hc0
        obtain ⟨rfl, hu8⟩ := hc0
        split at h
        · rename_i e' q g' hV
          split at h
          · rename_i hg0
            simp only [beq_iff_eq] at hg0; subst hg0
            rcases h with h | h
            · simp only [OR.v.injEq] at h; obtain ⟨rfl, rfl, rfl⟩ := h
              rw [Obl_append] at hb
              obtain ⟨hb1, hb2, _⟩ := hb
              rw [A.inb_eq, Sq.len_eq] at hb2
              have hr := ov_ok hf u hb1
              rw [hv] at hr
              have hr0 := hr
              rw [rv_of_scalar rfl] at hr; simp only [R] at hr
              obtain ⟨b, e0, g0, n, cap, y', hy', _, hg, hle, hgo⟩ := hr
              simp only [List.cons.injEq, and_true] at hy'; subst hy'
              obtain ⟨b', cap', hb', hcap, hst, cs, ds, hc, hrr, hlen, htake⟩ := hi.arr hV hg
              simp only [Gh.arr.injEq] at hb'; obtain ⟨rfl, rfl, rfl, rfl, rfl⟩ := hb'
              obtain ⟨h0, h1, h2, bo, hy, hbo⟩ := hgo rfl
              have hbo := hbo (by omega)
              subst hbo
              rw [hts] at hds
              simp only [DescOK] at hds; subst hds
              have h8 : X.td e = .int .u8 := by
                unfold isU8 at hu8; split at hu8
                · rename_i hq; exact hq
                · cases hu8
              obtain ⟨u3, hu3, hd3⟩ := (hX.known h8 (by intro l h; cases h) (by intro h; cases h)).und
              simp only [DescOK] at hd3; subst hd3
              obtain ⟨c, te, fz, hbk, hok, rfl⟩ := hc
              have hfr : (markStringish ⟨b, off.toNat * (X.td e0).size, none⟩).run P w = .ok () (w.freeze ⟨b, c.size, none⟩ 1) := by
                simp [markStringish, shape, freeze, Sem.run, World.shape?, hbk, Result.andThen]
              have hheap : (w.freeze ⟨b, c.size, none⟩ 1).heap[b]? = some (.cells c te (if fz.1 == fz.2 then (c.size, c.size + 1) else (min fz.1 c.size, max fz.2 (c.size + 1)))) := by
                simp [World.freeze, Array.getElem?_modify, hbk]
              have hother : ∀ x, x ≠ b → (w.freeze ⟨b, c.size, none⟩ 1).heap[x]? = w.heap[x]? := by
                intro x hx; simp [World.freeze, Array.getElem?_modify, Ne.symm hx]
              have hokz : okfz (if fz.1 == fz.2 then (c.size, c.size + 1) else (min fz.1 c.size, max fz.2 (c.size + 1))) c.size := by
                unfold okfz at hok ⊢
                split
                · exact .inr (Nat.le_refl _)
                · rename_i hne
                  simp only [beq_iff_eq] at hne
                  rcases hok with hok | hok
                  · exact absurd hok hne
                  · right; simp only; omega
              have hkept : Kept (own (.arr b e0 g0 q.length cap)) w (w.freeze ⟨b, c.size, none⟩ 1) := by
                refine ⟨by simp [World.freeze], rfl, rfl, rfl, ?_, ?_⟩
                · intro x c' t' fz' hx
                  by_cases he : x = b
                  · subst he; rw [hbk] at hx; cases hx
                    exact ⟨_, _, hheap, rfl, fun _ _ => rfl, fun ⟨o, ho⟩ => absurd (by simp [own]) ho, fun _ => hokz⟩
                  · exact ⟨c', fz', by rw [hother x he]; exact hx, rfl, fun _ _ => rfl, fun _ => rfl, fun h => h⟩
                · intro x y hx hy
                  by_cases he : x = b
                  · subst he; rw [hbk] at hx; cases hx; cases hy
                  · exact ⟨y, by rw [hother x he]; exact hx, hy, fun _ => rfl⟩
              obtain ⟨g1, g2⟩ := hi.putIn (o' := .arr e0 q _) hg hkept ⟨rfl, rfl, rfl, hcap, hst, _, _, ⟨c, te, _, hheap, hokz, rfl⟩, hrr, hlen, htake⟩
              rw [set_same (lget_there hV AO.ne_default_arr)] at g1
              refine .mk' (y := a.eval u) ?_ hr0 g1 g2
              simp only [execOp, ho]
              refine run_v ?_
              rw [hy]
              simp [convert, run_underlying hus, run_underlying hu3, hfr]
            · cases h
          · rcases h with h | h <;> cases h
        · rcases h with h | h <;> cases h
      · rcases h with h | h <;> cases h
    · rcases h with h | h <;> cases h
  · rcases h with h | h <;> cases h

theorem typeAssert_ok (hX : TbOK X P) {t u : Nat} {y : Value} (ht : ∀ e, X.td t ≠ .ifc e) (hk : kn X t = true) :
    (∀ v, y = .iface t v → ∀ xt, (Instr.typeAssert y xt t true).run P w = .ok (.tuple #[v, .bool true]) w ∧ (Instr.typeAssert y xt t false).run P w = .ok v w) ∧
    ((y = .nilIface ∨ ∃ v, y = .iface u v ∧ u ≠ t) → ∀ xt, ∃ z, (Instr.typeAssert y xt t true).run P w = .ok z w ∧ RV0 X E (.tup [.d (zeroD X depth t), .d (.bool false)]) z) := by
  obtain ⟨ut, hut, hnot⟩ := not_ifc hX ht hk
  obtain ⟨i, z, hinf, hsz, hby, hz, zs, hdz, hv, hlen⟩ := info_kn hX hk
  have hd' : DRel E.Γ (zeroD X depth t) zs := DRel.mono (fun _ _ _ h => by cases h) _ _ hdz
  have hzv : (zeroValue t).run P w = .ok z w := by simp [zeroValue, typeInfo, hinf, hz]
  refine ⟨fun v hv xt => ?_, fun hy xt => ?_⟩
  · subst hv
    unfold Instr.typeAssert
    constructor
    all_goals
      rw [step_und _ hut]
      cases ut <;> first | exact absurd rfl (hnot _) | simp
  · refine ⟨.tuple #[z, .bool false], ?_, ?_⟩
    · unfold Instr.typeAssert
      rw [step_und _ hut]
      rcases hy with rfl | ⟨v, rfl, hne⟩
      · cases ut <;> first | exact absurd rfl (hnot _) | simp [hzv]
      · cases ut <;> first | exact absurd rfl (hnot _) | simp [hzv, hne]
    · refine rv_tup.2 ⟨[z, .bool false], rfl, RVs.cons_iff.2 ⟨_, _, rfl, ?_, RVs.cons_iff.2 ⟨_, _, rfl, rv_bool.2 rfl, by simp [RVs]⟩⟩⟩
      refine ⟨zs, by simp only [R]; exact hd', ?_⟩
      have : (AV.d (zeroD X depth t)).isAgg = (X.td t).isAgg := by
        have h0 := zeroD_td (X := X) (t := t)
        rw [h0]; cases hq : X.td t <;> simp only [AV.isAgg, D.isAgg, TD.isAgg]
      rw [this]; exact hv

theorem closedSeq_ok {v : AV} {q : Sq D} {y : Value} (h : closedSeq v = some q) (hv : RV0 X E v y) : ∃ ds, SqR E.Γ q ds ∧ SlAt E.Γ y q.length ds := by
  obtain ⟨cs, h1, h2⟩ := hv
  unfold closedSeq at h
  split at h
  · cases h
    simp only [R, DRel] at h1
    obtain ⟨v', ds, rfl, h3, h4⟩ := h1
    simp only [VOf, AV.isAgg, D.isAgg, List.cons.injEq, and_true] at h2; subst h2
    exact ⟨ds, h3, h4⟩
  · cases h
    simp only [R, DRel] at h1
    obtain ⟨v', ds, rfl, h3, h4, _⟩ := h1
    simp only [VOf, AV.isAgg, D.isAgg, List.cons.injEq, and_true] at h2; subst h2
    exact ⟨ds, h3, h4⟩
  · cases h
    simp only [R] at h1
    obtain ⟨v', ds, τ, c, rfl, h3, h4, _⟩ := h1
    simp only [VOf, AV.isAgg, List.cons.injEq, and_true] at h2; subst h2
    exact ⟨ds, h3, h4⟩
  · cases h

theorem told_s2ap (hX : TbOK X P) (hi : Inv X P E V w) (hf : FrOK X E fr a.tmps) {o : Oper} {t : Nat} {u : Operand} (ho : o.op = .sliceToArrayPointer t u) : Told X P A M E V w fr a o := by
  intro x V' ob h hb
  simp only [exec, ho] at h
  split at h
  · rename_i sz n e q htd hq
    split at h
    · rename_i hn
      rcases h with h | h
      · simp only [OR.v.injEq] at h; obtain ⟨rfl, rfl, rfl⟩ := h
        rw [Obl_append] at hb
        obtain ⟨hb1, hb2, _⟩ := hb
        rw [A.bnd_eq, Sq.len_eq] at hb2
        obtain ⟨ds, h3, h4⟩ := closedSeq_ok hq (ov_ok hf u hb1)
        have hn' : 0 < n := by simpa [Nat.blt_eq] using hn
        obtain ⟨b, o', cap, hy, hc, hcells⟩ := h4.some (by omega)
        obtain ⟨u1, hu1, hd1⟩ := (hX.known htd (by intro l h; cases h) (by intro h; cases h)).und
        simp only [DescOK] at hd1
        have e1 : (execOp a.eval o).run P w = .ok (.value (.pointer (some ⟨b, o', none⟩))) w := by
          simp only [execOp, ho]
          refine run_v ?_
          have hlt : ¬ q.length < n := by omega
          obtain ⟨rfl, _⟩ := hd1
          simp [Instr.arrayAt, run_und hX hu1, hy, hlt]
        obtain ⟨g1, g2, _⟩ := Sq.cut_ok (A := A) (lo := 0) (hi := (n : Int)) h3 (by omega) (by omega) (by omega)
        refine .same hi e1 ⟨[_], ?_, rfl⟩
        simp only [R]
        refine ⟨b, o', _, 0, rfl, by simp only [DRel]; exact ⟨g1, by rw [g2]; omega⟩, ?_, rfl⟩
        have := cut_cells (lo := 0) (hi := (n : Int)) h3 hcells (by omega)
        simpa using this
      · cases h
    · rcases h with h | h <;> cases h
  · rcases h with h | h <;> cases h

theorem told_typeAssert (hX : TbOK X P) (hi : Inv X P E V w) (hf : FrOK X E fr a.tmps) {o : Oper} {xt t : Nat} {ok : Bool} {u : Operand} (ho : o.op = .typeAssert u xt t ok) : Told X P A M E V w fr a o := by
  intro x V' ob h hb
  simp only [exec, ho] at h
  split at h
  · rename_i hk
    have two : ∀ v : AV, ∀ y, RV0 X E v y → RV0 X E (.tup [v, .d (.bool true)]) (.tuple #[y, .bool true]) := fun v y hv =>
      rv_tup.2 ⟨[y, .bool true], rfl, RVs.cons_iff.2 ⟨_, _, rfl, hv, RVs.cons_iff.2 ⟨_, _, rfl, rv_bool.2 rfl, by simp [RVs]⟩⟩⟩
    split at h
    · rcases h with h | h <;> cases h
    · rename_i hv hne
      rcases h with h | h
      · simp only [OR.v.injEq] at h; obtain ⟨rfl, rfl, rfl⟩ := h
        have hr := ov_ok hf u hb; rw [hv, rv_nili] at hr
        obtain ⟨z, h1, h2⟩ := (typeAssert_ok (E := E) (w := w) (u := 0) hX (fun e he => hne _ he) hk (y := a.eval u)).2 (.inl hr) xt
        exact .same hi (by simp only [execOp, ho]; exact run_v h1) h2
      · cases h
    · rename_i u' v hv hne
      split at h
      · rename_i heq; simp only [beq_iff_eq] at heq; subst heq
        rcases h with h | h
        · simp only [OR.v.injEq] at h; obtain ⟨rfl, rfl, rfl⟩ := h
          have hr := ov_ok hf u hb; rw [hv] at hr
          obtain ⟨y, h1, h2⟩ := rv_difc.1 hr
          have := ((typeAssert_ok (E := E) (w := w) (u := 0) hX (fun e he => hne _ he) hk (y := a.eval u)).1 y h1 xt).1
          exact .same hi (by simp only [execOp, ho]; exact run_v this) (two _ _ h2)
        · cases h
      · rename_i hneq
        rcases h with h | h
        · simp only [OR.v.injEq] at h; obtain ⟨rfl, rfl, rfl⟩ := h
          have hr := ov_ok hf u hb; rw [hv] at hr
          obtain ⟨y, h1, h2⟩ := rv_difc.1 hr
          obtain ⟨z, h3, h4⟩ := (typeAssert_ok (E := E) (w := w) (u := u') hX (fun e he => hne _ he) hk (y := a.eval u)).2 (.inr ⟨y, h1, by simpa using hneq⟩) xt
          exact .same hi (by simp only [execOp, ho]; exact run_v h3) h4
        · cases h
    · rename_i u' v hv hne
      split at h
      · rename_i heq; simp only [beq_iff_eq] at heq; subst heq
        rcases h with h | h
        · simp only [OR.v.injEq] at h; obtain ⟨rfl, rfl, rfl⟩ := h
          have hr := ov_ok hf u hb; rw [hv] at hr
          obtain ⟨y, h1, h2⟩ := rv_ifc.1 hr
          have := ((typeAssert_ok (E := E) (w := w) (u := 0) hX (fun e he => hne _ he) hk (y := a.eval u)).1 y h1 xt).1
          exact .same hi (by simp only [execOp, ho]; exact run_v this) (two _ _ h2)
        · cases h
      · rename_i hneq
        rcases h with h | h
        · simp only [OR.v.injEq] at h; obtain ⟨rfl, rfl, rfl⟩ := h
          have hr := ov_ok hf u hb; rw [hv] at hr
          obtain ⟨y, h1, h2⟩ := rv_ifc.1 hr
          obtain ⟨z, h3, h4⟩ := (typeAssert_ok (E := E) (w := w) (u := u') hX (fun e he => hne _ he) hk (y := a.eval u)).2 (.inr ⟨y, h1, by simpa using hneq⟩) xt
          exact .same hi (by simp only [execOp, ho]; exact run_v h3) h4
        · cases h
    · rename_i u' v hv hne
      split at h
      · rename_i heq; simp only [beq_iff_eq] at heq; subst heq
        rcases h with h | h
        · simp only [OR.v.injEq] at h; obtain ⟨rfl, rfl, rfl⟩ := h
          have hr := ov_ok hf u hb; rw [hv] at hr
          obtain ⟨y, h1, h2⟩ := rv_difc.1 hr
          have := ((typeAssert_ok (E := E) (w := w) (u := 0) hX (fun e he => hne _ he) hk (y := a.eval u)).1 y h1 xt).2
          exact .same hi (by simp only [execOp, ho]; exact run_v this) h2
        · cases h
      · rcases h with h | h <;> cases h
    · rename_i u' v hv hne
      split at h
      · rename_i heq; simp only [beq_iff_eq] at heq; subst heq
        rcases h with h | h
        · simp only [OR.v.injEq] at h; obtain ⟨rfl, rfl, rfl⟩ := h
          have hr := ov_ok hf u hb; rw [hv] at hr
          obtain ⟨y, h1, h2⟩ := rv_ifc.1 hr
          have := ((typeAssert_ok (E := E) (w := w) (u := 0) hX (fun e he => hne _ he) hk (y := a.eval u)).1 y h1 xt).2
          exact .same hi (by simp only [execOp, ho]; exact run_v this) h2
        · cases h
      · rcases h with h | h <;> cases h
    · rcases h with h | h <;> cases h
  · rcases h with h | h <;> cases h

/-! ### Built-in functions -/
theorem run_bi {o : Oper} {c : Call} {b : Builtin} {ρ : Operand → Value} (ho : o.op = .call c) (hc : c.callee = .builtin b) : ∃ k,
    (execOp ρ o).run P w = (builtin b c.argTypes o.type k (c.args.map ρ)).run P w :=
  ⟨_, by simp only [execOp, ho, resolve, hc]; simp only [Sem.run_bind, Sem.run_pure, Result.andThen, invoke]; rfl⟩

theorem args_ok (hf : FrOK X E fr a.tmps) {l : Array Operand} (ho : Obl (oos A fr l.toList)) : ∃ ys : List Value, l.map a.eval = ys.toArray ∧ RVs X E (ovs fr l.toList) ys :=
  ⟨l.toList.map a.eval, by simp [← Array.toList_map], ovs_ok hf _ ho⟩

theorem RVs.one {v : AV} {ys : List Value} (h : RVs X E [v] ys) : ∃ y, ys = [y] ∧ RV0 X E v y := by
  obtain ⟨y, r, rfl, h1, h2⟩ := RVs.cons_iff.1 h
  simp only [RVs] at h2; subst h2; exact ⟨y, rfl, h1⟩
theorem RVs.two {v u : AV} {ys : List Value} (h : RVs X E [v, u] ys) : ∃ y z, ys = [y, z] ∧ RV0 X E v y ∧ RV0 X E u z := by
  obtain ⟨y, r, rfl, h1, h2⟩ := RVs.cons_iff.1 h
  obtain ⟨z, rfl, h3⟩ := h2.one
  exact ⟨y, z, rfl, h1, h3⟩

theorem told_len (hX : TbOK X P) (hi : Inv X P E V w) (hf : FrOK X E fr a.tmps) {o : Oper} {c : Call} (ho : o.op = .call c) (hc : c.callee = .builtin .len) : Told X P A M E V w fr a o := by
  intro x V' ob h hb
  obtain ⟨k, hrun⟩ := run_bi (P := P) (w := w) (ρ := a.eval) ho hc
  simp only [exec, ho, hc, execBuiltin] at h
  split at h
  · rename_i v t hv hts
    have hat : c.argTypes = #[t] := by rw [← Array.toList_inj, hts]
    have fin : ∀ (n : Int) (y : Value), c.args.map a.eval = #[y] → (Builtin.len_ #[t] o.type #[y]).run P w = .ok (.int .i64 n) w → VDone X P E w ((execOp a.eval o).run P w) (.d (.int .i64 n)) V := by
      intro n y ha hl
      refine .same hi (y := .int .i64 n) ?_ (rv_int.2 rfl)
      rw [hrun, hat, ha]; simp [builtin, hl]
    split at h
    · -- array
      rename_i sz n e htd
      rcases h with h | h
      · simp only [OR.v.injEq] at h; obtain ⟨rfl, rfl, rfl⟩ := h
        obtain ⟨ys, ha, hr⟩ := args_ok (X := X) (E := E) hf hb
        rw [hv] at hr
        obtain ⟨y, rfl, hy⟩ := hr.one
        obtain ⟨ut, hut, hdt⟩ := (hX.known htd (by intro l h; cases h) (by intro h; cases h)).und
        obtain ⟨rfl, _⟩ := hdt
        exact fin _ y ha (by simp [Builtin.len_, run_underlying hut, goInt])
      · cases h
    · -- map
      rename_i k0 e0 htd
      obtain ⟨ut, hut, hdt⟩ := (hX.known htd (by intro l h; cases h) (by intro h; cases h)).und
      simp only [DescOK] at hdt; subst hdt
      split at h
      · rename_i r
        split at h
        · rename_i m hV
          rcases h with h | h
          · simp only [OR.v.injEq] at h; obtain ⟨rfl, rfl, rfl⟩ := h
            obtain ⟨ys, ha, hr⟩ := args_ok (X := X) (E := E) hf hb
            rw [hv] at hr
            obtain ⟨y, rfl, hy⟩ := hr.one
            rw [rv_of_scalar rfl] at hy; simp only [R] at hy
            obtain ⟨b, h1, hg⟩ := hy
            simp only [List.cons.injEq, and_true] at h1; subst h1
            have hs := hi.slot r _ _ hg (lget_there hV AO.ne_default_map)
            obtain ⟨es, cl, h2, h3⟩ := hs
            refine fin _ _ ha ?_
            rw [A.len_eq, ← h3.1]
            have hgo : (getObj b).run P w = .ok (.map es cl) w := by simp [getObj, Sem.run, h2]
            simp [Builtin.len_, run_underlying hut, goInt, hgo]
          · cases h
        · rcases h with h | h <;> cases h
      · rcases h with h | h
        · simp only [OR.v.injEq] at h; obtain ⟨rfl, rfl, rfl⟩ := h
          obtain ⟨ys, ha, hr⟩ := args_ok (X := X) (E := E) hf hb
          rw [hv] at hr
          obtain ⟨y, rfl, hy⟩ := hr.one
          rw [rv_nilm] at hy; subst hy
          exact fin _ _ ha (by simp [Builtin.len_, run_underlying hut, goInt])
        · cases h
      · rcases h with h | h <;> cases h
    · -- text
      rename_i htd
      obtain ⟨ut, hut, hdt⟩ := (hX.known htd (by intro l h; cases h) (by intro h; cases h)).und
      simp only [DescOK] at hdt; subst hdt
      split at h
      · rename_i l
        rcases h with h | h
        · simp only [OR.v.injEq] at h; obtain ⟨rfl, rfl, rfl⟩ := h
          obtain ⟨ys, ha, hr⟩ := args_ok (X := X) (E := E) hf hb
          rw [hv] at hr
          obtain ⟨y, rfl, hy⟩ := hr.one
          rw [rv_str] at hy; subst hy
          have hsz : (⟨l.toArray⟩ : ByteArray).size = l.length := by simp [ByteArray.size]
          exact fin _ _ ha (by rw [A.len_eq, ← hsz]; simp only [Builtin.len_]; simp [run_underlying hut, goInt, -ByteArray.size_data])
        · cases h
      · rcases h with h | h <;> cases h
    · -- slice
      rename_i e htd
      obtain ⟨ut, hut, hdt⟩ := (hX.known htd (by intro l h; cases h) (by intro h; cases h)).und
      simp only [DescOK] at hdt; subst hdt
      split at h
      · rename_i n hn
        rcases h with h | h
        · simp only [OR.v.injEq] at h; obtain ⟨rfl, rfl, rfl⟩ := h
          obtain ⟨ys, ha, hr⟩ := args_ok (X := X) (E := E) hf hb
          rw [hv] at hr
          obtain ⟨y, rfl, hy⟩ := hr.one
          obtain ⟨ad, k, c, rfl, rfl⟩ := lenOf_ok hi hn hy
          exact fin _ _ ha (by simp [Builtin.len_, run_underlying hut, goInt])
        · cases h
      · rcases h with h | h <;> cases h
    · rcases h with h | h <;> cases h
  · rcases h with h | h <;> cases h

theorem told_append (hX : TbOK X P) (hi : Inv X P E V w) (hf : FrOK X E fr a.tmps) {o : Oper} {c : Call} (ho : o.op = .call c) (hc : c.callee = .builtin .append) : Told X P A M E V w fr a o := by
  intro x V' ob h hb
  obtain ⟨k, hrun⟩ := run_bi (P := P) (w := w) (ρ := a.eval) ho hc
  simp only [exec, ho, hc, execBuiltin] at h
  split at h
  · rename_i v v2 t u hv hts
    have hat : c.argTypes = #[t, u] := by rw [← Array.toList_inj, hts]
    split at h
    · rename_i e he
      split at h
      · rename_i hu
        split at h
        · rename_i m hm
          rcases h with h | h
          · obtain ⟨o', h1, rfl⟩ := vV_v h
            rw [Obl_append] at hb
            obtain ⟨ys, ha, hr⟩ := args_ok (X := X) (E := E) hf hb.1
            rw [hv] at hr
            obtain ⟨y, z, rfl, hy, hz⟩ := hr.two
            obtain ⟨z', w', E', h2, h3, h4, h5⟩ := appendAV_ok (ty := o.type) hX hi (elemOf_ok he) (srcT_ok hX hu) hm hz h1 hb.2 hy
            refine .mk' (y := z') (w' := w') ?_ h3 h4 h5
            rw [hrun, hat, ha]
            simp only [builtin]; exact run_v h2
          · exact (vV_el h).elim
        · rcases h with h | h <;> cases h
      · rcases h with h | h <;> cases h
    · rcases h with h | h <;> cases h
  · rcases h with h | h <;> cases h

theorem told_copy (hX : TbOK X P) (hi : Inv X P E V w) (hf : FrOK X E fr a.tmps) {o : Oper} {c : Call} (ho : o.op = .call c) (hc : c.callee = .builtin .copy) : Told X P A M E V w fr a o := by
  intro x V' ob h hb
  obtain ⟨k, hrun⟩ := run_bi (P := P) (w := w) (ρ := a.eval) ho hc
  simp only [exec, ho, hc, execBuiltin] at h
  split at h
  · rename_i v v2 t ts hv hts
    have hat : c.argTypes[0]? = some t := by rw [← Array.getElem?_toList, hts]; rfl
    split at h
    · rename_i e he
      split at h
      · rename_i m hm
        split at h
        · rename_i hk
          rcases h with h | h
          · obtain ⟨o', h1, rfl⟩ := vV_v h
            rw [Obl_append] at hb
            obtain ⟨ys, ha, hr⟩ := args_ok (X := X) (E := E) hf hb.1
            rw [hv] at hr
            obtain ⟨y, z, rfl, hy, hz⟩ := hr.two
            obtain ⟨z', w', h2, h3, h4, h5⟩ := copyAV_ok (ty := o.type) hX hi (elemOf_ok he) hk hat hm hz h1 hb.2 hy
            refine .mk' (y := z') (w' := w') ?_ h3 h4 h5
            rw [hrun, ha]
            simp only [builtin]; exact run_v h2
          · exact (vV_el h).elim
        · rcases h with h | h <;> cases h
      · rcases h with h | h <;> cases h
    · rcases h with h | h <;> cases h
  · rcases h with h | h <;> cases h

theorem told_min (hi : Inv X P E V w) (hf : FrOK X E fr a.tmps) {o : Oper} {c : Call} (ho : o.op = .call c) (hc : c.callee = .builtin .min) : Told X P A M E V w fr a o := by
  intro x V' ob h hb
  obtain ⟨k, hrun⟩ := run_bi (P := P) (w := w) (ρ := a.eval) ho hc
  simp only [exec, ho, hc, execBuiltin] at h
  split at h
  · rename_i k' n l hv
    split at h
    · rename_i m hm
      rcases h with h | h
      · simp only [OR.v.injEq] at h; obtain ⟨rfl, rfl, rfl⟩ := h
        obtain ⟨ys, ha, hr⟩ := args_ok (X := X) (E := E) hf hb
        rw [hv] at hr
        obtain ⟨y, r, rfl, hy, hr2⟩ := RVs.cons_iff.1 hr
        rw [rv_int] at hy; subst hy
        have := foldMM_ok (P := P) (w := w) hm hr2
        simp only [Bool.false_eq_true, if_false] at this
        refine .same hi (y := .int k' m) ?_ (rv_int.2 rfl)
        rw [hrun, ha]
        simp [builtin, Builtin.min_, this]
      · cases h
    · rcases h with h | h <;> cases h
  · rcases h with h | h <;> cases h

theorem told_max (hi : Inv X P E V w) (hf : FrOK X E fr a.tmps) {o : Oper} {c : Call} (ho : o.op = .call c) (hc : c.callee = .builtin .max) : Told X P A M E V w fr a o := by
  intro x V' ob h hb
  obtain ⟨k, hrun⟩ := run_bi (P := P) (w := w) (ρ := a.eval) ho hc
  simp only [exec, ho, hc, execBuiltin] at h
  split at h
  · rename_i k' n l hv
    split at h
    · rename_i m hm
      rcases h with h | h
      · simp only [OR.v.injEq] at h; obtain ⟨rfl, rfl, rfl⟩ := h
        obtain ⟨ys, ha, hr⟩ := args_ok (X := X) (E := E) hf hb
        rw [hv] at hr
        obtain ⟨y, r, rfl, hy, hr2⟩ := RVs.cons_iff.1 hr
        rw [rv_int] at hy; subst hy
        have := foldMM_ok (P := P) (w := w) hm hr2
        simp only [if_true] at this
        refine .same hi (y := .int k' m) ?_ (rv_int.2 rfl)
        rw [hrun, ha]
        simp [builtin, Builtin.max_, this]
      · cases h
    · rcases h with h | h <;> cases h
  · rcases h with h | h <;> cases h

theorem told_makeMap (hi : Inv X P E V w) {o : Oper} {t : Nat} (ho : o.op = .makeMap t none) : Told X P A M E V w fr a o := by
  intro x V' ob h hb
  simp only [exec, ho] at h
  rcases h with h | h
  · simp only [OR.v.injEq] at h; obtain ⟨rfl, rfl, rfl⟩ := h
    have hrun : (Instr.makeMap t none).run P w = .ok (.map (some w.heap.size)) (World.push w (.map #[] 0)) := by simp [Instr.makeMap, newObj]; simp [Sem.run]; rfl
    obtain ⟨h1, h2⟩ := hi.add (w' := World.push w (.map #[] 0)) (g' := .map w.heap.size) (o' := .map []) (Γ' := E.Γ) (Kept.push _ w _) (fun _ _ _ h => h)
      (fun b o h => by simp only [own] at h; subst h; exact ⟨Nat.le_refl _, by rw [push_size]; omega⟩) (fun b o v hv => .inl hv)
      ⟨#[], 0, push_new w _, rfl, fun i e kv he => by simp at he⟩
    refine .mk' (by simp only [execOp, ho, Option.map_none]; exact run_v hrun) ?_ h1 h2
    rw [rv_of_scalar rfl]; simp only [R]
    exact ⟨_, rfl, by rw [llen_eq, ← hi.len]; exact rho_new _ _⟩
  · cases h

/-- Every operation that hands back a value does what it is told to do. -/
theorem told (hX : TbOK X P) (hi : Inv X P E V w) (hf : FrOK X E fr a.tmps) (o : Oper) : Told X P A M E V w fr a o := by
  cases ho : o.op with
  | move x => exact told_move hi hf (.inl ho)
  | assign x => exact told_move hi hf (.inr ho)
  | pick c x y => exact told_pick hi hf ho
  | alloc t => exact told_alloc hX hi ho
  | box t x => exact told_box hi hf ho
  | build t ps => exact told_build hX hi hf ho
  | buildSlice t n ps => exact told_buildSlice hX hi hf ho
  | load t x => exact told_load hX hi hf ho
  | store t x y => exact told_store hX hi hf ho
  | nilCheck x => exact told_nilCheck hi hf ho
  | binOp b t x y p => exact told_binOp hX hi hf ho
  | unOp b t x => exact told_unOp hi hf ho
  | convert s t x => exact told_convert hX hi hf ho
  | makeInterface t x => exact told_makeInterface hX hi hf ho
  | makeFunc f x y => exact told_makeFunc hi hf ho
  | makeSlice t x y => exact told_makeSlice hX hi hf ho
  | slice t x l h m => exact told_slice hX hi hf ho
  | fieldAddr s x f => exact told_fieldAddr hX hi hf ho
  | field s x f => exact told_field hX hi hf ho
  | indexAddr t x i => exact told_indexAddr hX hi hf ho
  | index t x i => exact told_index hX hi hf ho
  | typeAssert x s t ok => exact told_typeAssert hX hi hf ho
  | sliceToArrayPointer t x => exact told_s2ap hX hi hf ho
  | extract x i => exact told_extract hi hf ho
  | call c =>
    cases hc : c.callee with
    | builtin b =>
      have none_ : ∀ n, exec A X M fr V o = .bad n → Told X P A M E V w fr a o := by
        intro n hn x V' ob h; rw [hn] at h; rcases h with h | h <;> cases h
      cases b with
      | len => exact told_len hX hi hf ho hc
      | append => exact told_append hX hi hf ho hc
      | min => exact told_min hi hf ho hc
      | max => exact told_max hi hf ho hc
      | copy => exact told_copy hX hi hf ho hc
      | recover => intro x V' ob h; simp only [exec, ho, hc, execBuiltin] at h; rcases h with h | h <;> cases h
      | _ => exact none_ 120 (by simp only [exec, ho, hc, execBuiltin])
    | value f => intro x V' ob h; simp only [exec, ho, hc] at h; rcases h with h | h <;> cases h
    | invoke r m => intro x V' ob h; simp only [exec, ho, hc] at h; rcases h with h | h <;> cases h
  | defer c =>
    intro x V' ob h; simp only [exec, ho] at h
    split at h
    · split at h <;> (rcases h with h | h <;> cases h)
    · rcases h with h | h <;> cases h
  | panic x =>
    intro x V' ob h; simp only [exec, ho] at h
    split at h <;> (rcases h with h | h <;> cases h)
  | makeMap t r =>
    cases r with
    | none => exact told_makeMap hi ho
    | some r => intro x V' ob h; simp only [exec, ho] at h; rcases h with h | h <;> cases h
  | _ => intro x V' ob h; simp only [exec, ho] at h; rcases h with h | h <;> cases h

end
end Go.Sk
