/- Sk, part K: loads, stores, new variables. -/
import Derived.Test.YtlheciphihmomaaGreatDoorSkJ
set_option linter.all false
namespace Go.Sk
open Go

mutual
def nox : Sh → Bool
  | .x => false
  | .c => true
  | .a l => noxs l
  | .ar _ _ _ => true
def noxs : List Sh → Bool
  | [] => true
  | s :: l => nox s && noxs l
end

theorem shq_nox : ∀ (a b : Sh), shq a b = true → nox b = true := by
  intro a
  refine Sh.rec (motive_1 := fun a => ∀ b, shq a b = true → nox b = true) (motive_2 := fun l => ∀ m, shqs l m = true → noxs m = true) ?_ ?_ ?_ ?_ ?_ ?_ a
  · intro b h; cases b <;> simp [shq] at h
  · intro b h; cases b <;> simp [shq, nox] at h ⊢
  · intro l ih b h
    cases b <;> simp [shq] at h
    simp only [nox]; exact ih _ h
  · intro n st sc b h; cases b <;> simp [shq, nox] at h ⊢
  · intro m h; cases m <;> simp [shqs, noxs] at h ⊢
  · intro x l ihx ihl m h
    cases m with
    | nil => simp [shqs] at h
    | cons y m =>
      simp [shqs] at h
      simp [noxs, ihx _ h.1, ihl _ h.2]

theorem shT_up (X : Tb) : ∀ n, (∀ t, nox (shT X n t) = true → shT X (n + 1) t = shT X n t) ∧ (∀ fs, noxs (shTs X n fs) = true → shTs X (n + 1) fs = shTs X n fs)
  | 0 => ⟨fun t h => by simp [shT, nox] at h, fun fs h => by simp [shTs, noxs, nox] at h⟩
  | n + 1 => by
    obtain ⟨ih1, ih2⟩ := shT_up X n
    refine ⟨fun t h => ?_, fun fs h => ?_⟩
    · rw [shT, shT] at *
      split <;> rename_i htd <;> simp only [htd] at h ⊢
      rw [ih2 _ (by simpa only [nox] using h)]
    · cases fs with
      | nil => simp only [shTs]
      | cons t ts =>
        rw [shTs]; rw [shTs] at h ⊢
        simp only [noxs, Bool.and_eq_true] at h
        rw [ih1 _ h.1, ih2 _ h.2]

theorem shT_le (X : Tb) {n m t : Nat} (h : n ≤ m) (hn : nox (shT X n t) = true) : shT X m t = shT X n t := by
  induction h with
  | refl => rfl
  | step h ih => rw [(shT_up X _).1 _ (by rw [ih]; exact hn), ih]

theorem shT_td (X : Tb) {n t t' : Nat} (h : X.td t = X.td t') : shT X n t = shT X n t' := by
  cases n with
  | zero => simp only [shT]
  | succ n => rw [shT, shT, h]

theorem Fit.sh {X : Tb} {t t' : Nat} {v v' : AV} (h : Fit X t v) (h' : Fit X t' v') (ht : X.td t = X.td t') : shA v = shA v' := by
  obtain ⟨n, h⟩ := h
  obtain ⟨m, h'⟩ := h'
  have e1 := shq_eq _ _ h
  have e2 := shq_eq _ _ h'
  have x1 := shq_nox _ _ h
  have x2 := shq_nox _ _ h'
  rw [e1, e2]
  rcases Nat.le_total n m with hl | hl
  · rw [← shT_le X hl x1]; exact shT_td X ht
  · rw [← shT_le X hl x2]; exact shT_td X ht

theorem Fit.td {X : Tb} {t t' : Nat} {v : AV} (h : Fit X t v) (ht : X.td t = X.td t') : Fit X t' v := by
  obtain ⟨n, h⟩ := h
  exact ⟨n, by rw [← shT_td X ht]; exact h⟩

section
variable {X : Tb} {P : Program} {E : Env} {V : List AO} {w w' : World} {A : Ari}

theorem set_same {α : Type} {l : List α} {r : Nat} {g : α} (h : l[r]? = some g) : l.set r g = l := by
  apply List.ext_getElem?
  intro i
  by_cases e : r = i
  · subst e; rw [List.getElem?_set_self ((List.getElem?_eq_some_iff.1 h).1), h]
  · rw [List.getElem?_set_ne e]

/-- A slot's contents change in place. -/
theorem Inv.putIn (hi : Inv X P E V w) {r : Nat} {g : Gh} {o' : AO} (hg : E.ρ[r]? = some g) (hk : Kept (own g) w w') (hs : SlotOK X P E g o' w') :
    Inv X P E (V.set r o') w' ∧ Ext E w E w' := by
  have hE : (⟨E.Γ, E.ρ.set r g⟩ : Env) = E := by rw [set_same hg]
  have := hi.upd (Γ' := E.Γ) (o' := o') hg hk g.le_refl (fun _ _ _ h => h) (fun b o ho => ⟨.inl ho, Nat.lt_of_lt_of_le (hi.old b o ⟨r, g, hg, ho⟩) hk.size⟩) (fun b o v hv => .inl hv) (by rw [hE]; exact hs)
  rw [hE] at this; exact this

theorem AO.ne_default_blk {t : Nat} {v : AV} : (AO.blk t v) ≠ default := by intro h; cases h
theorem AO.ne_default_arr {e : Nat} {q : Sq D} {g : Nat} : (AO.arr e q g) ≠ default := by intro h; cases h
theorem AO.ne_default_grow {e : Nat} : (AO.grow e) ≠ default := by intro h; cases h
theorem AO.ne_default_map {m : List (D × AV)} : (AO.map m) ≠ default := by intro h; cases h
theorem AO.ne_default_loop {m : ALoop} : (AO.loop m) ≠ default := by intro h; cases h

/-- A block's slot, where the abstract objects have it. -/
theorem Inv.blk (hi : Inv X P E V w) {r t : Nat} {v : AV} (h : lget V r = .blk t v) {g : Gh} (hg : E.ρ[r]? = some g) :
    ∃ b, g = .blk b t ∧ Fit X t v ∧ ∃ cs, CellsOK w b cs ∧ R X E v cs := by
  have hs := hi.slot r g _ hg (lget_there h AO.ne_default_blk)
  cases g <;> simp only [SlotOK] at hs
  obtain ⟨rfl, h1, h2⟩ := hs
  exact ⟨_, rfl, h1, h2⟩

theorem Inv.arr (hi : Inv X P E V w) {r e gn : Nat} {q : Sq D} (h : lget V r = .arr e q gn) {g : Gh} (hg : E.ρ[r]? = some g) :
    ∃ b cap, g = .arr b e gn q.length cap ∧ q.length ≤ cap ∧ stOK X e q = true ∧ ∃ cs ds, CellsOK w b cs ∧ SqR E.Γ q ds ∧ cs.length = cap * (X.td e).size ∧ cs.take (q.length * (X.td e).size) = ds := by
  have hs := hi.slot r g _ hg (lget_there h AO.ne_default_arr)
  cases g <;> simp only [SlotOK] at hs
  obtain ⟨rfl, rfl, rfl, h1, h2, h3⟩ := hs
  exact ⟨_, _, rfl, h1, h2, h3⟩

theorem Sq.at_sh {sh : Sh} {l : List D} {cs : List Value} {Γ : Gam} (h : SqR Γ (.g sh l) cs) {i : Nat} (hi : i < l.length) : shD ((Sq.g sh l).at i) = sh := by
  simp only [SqR] at h
  have : (Sq.g sh l).at i = lget l i := by simp only [Sq.at]; rw [lget_eq]; rfl
  rw [this]; exact h.2 _ (List.mem_of_getElem? (lget_some hi))

/-- An element of a slice whose kind is the type's. -/
theorem stOK_fit {e : Nat} {q : Sq D} {cs : List Value} {Γ : Gam} (hq : stOK X e q = true) (hr : SqR Γ q cs) {i : Nat} (hi : i < q.length) : Fit X e (.d (q.at i)) := by
  cases q with
  | b l => exact Fit_scalar rfl (by simp only [stOK] at hq; cases htd : X.td e <;> simp_all [isU8, scK])
  | s l => exact Fit_scalar rfl (by simp only [stOK] at hq; split at hq <;> simp_all [scK])
  | i k l => exact Fit_scalar rfl (by simp only [stOK] at hq; split at hq <;> simp_all [scK])
  | g sh l =>
    simp only [stOK, Bool.and_eq_true] at hq
    exact ⟨depth, by simp only [shA]; rw [Sq.at_sh hr hi]; exact hq.2⟩

theorem shT_sz {P : Program} (hX : TbOK X P) : ∀ n, (∀ t, nox (shT X n t) = true → (shT X n t).sz = (X.td t).size) ∧ (∀ fs, noxs (shTs X n fs) = true → Sh.szs (shTs X n fs) = sumSz X fs fs.length)
  | 0 => ⟨fun t h => by simp [shT, nox] at h, fun fs h => by simp [shTs, noxs, nox] at h⟩
  | n + 1 => by
    obtain ⟨ih1, ih2⟩ := shT_sz hX n
    refine ⟨fun t h => ?_, fun fs h => ?_⟩
    · rw [shT] at h ⊢
      split <;> rename_i htd
      · simp only [htd] at h
        obtain ⟨u, hu, f, _, _, _, hsz⟩ := (hX.known htd (by simp) (by simp)).und
        rw [htd]; show Sh.szs _ = _
        rw [ih2 _ (by simpa only [nox] using h), hsz]; rfl
      · obtain ⟨u, hu, _, hsz⟩ := (hX.known htd (by simp) (by simp)).und
        rw [htd]; simp only [Sh.sz]; rw [hsz]; rfl
      · rename_i h2
        simp only [Sh.sz]
        rw [size_scalar]
        cases hd : X.td t <;> simp_all [TD.isAgg]
    · cases fs with
      | nil => simp [shTs, Sh.szs, sumSz]
      | cons t ts =>
        rw [shTs] at h ⊢
        simp only [noxs, Bool.and_eq_true] at h
        simp only [Sh.szs, List.length_cons, sumSz]
        rw [ih1 _ h.1, ih2 _ h.2]

theorem stOK_size {P : Program} (hX : TbOK X P) {e : Nat} {q : Sq D} (hq : stOK X e q = true) : q.st = (X.td e).size := by
  cases q with
  | b l => simp only [stOK] at hq; cases htd : X.td e <;> simp_all [isU8, Sq.st, TD.size]
  | s l => simp only [stOK] at hq; split at hq <;> simp_all [Sq.st, TD.size]
  | i k l => simp only [stOK] at hq; split at hq <;> simp_all [Sq.st, TD.size]
  | g sh l =>
    simp only [stOK, Bool.and_eq_true] at hq
    have h1 := shq_eq _ _ hq.2
    have h2 := shq_nox _ _ hq.2
    simp only [Sq.st]; rw [h1]; exact (shT_sz hX depth).1 e h2

theorem stOK_kn {e : Nat} {q : Sq D} (hq : stOK X e q = true) : kn X e = true := by
  cases q with
  | b l => simp only [stOK] at hq; cases htd : X.td e <;> simp_all [isU8, kn]
  | s l => simp only [stOK] at hq; split at hq <;> simp_all [kn]
  | i k l => simp only [stOK] at hq; split at hq <;> simp_all [kn]
  | g sh l => simp only [stOK, Bool.and_eq_true] at hq; exact hq.1.2

theorem kn_eq {a b : Nat} (h : X.td a = X.td b) : kn X a = kn X b := by unfold kn; rw [h]

theorem tyIs_some {p : List PE} {t s : Nat} (h : tyIs X p t s = true) : ∃ u, tyAt X p t = some u ∧ sameT X u s = true ∧ kn X s = true := by
  unfold tyIs at h
  split at h
  · rename_i u hu
    simp only [Bool.and_eq_true] at h
    exact ⟨u, hu, h.1, h.2⟩
  · cases h

/-- What a row of cells holds at a place. -/
theorem CellsOK.at {b o n : Nat} {cs : List Value} (h : CellsOK w b cs) : ∀ j v, ((cs.drop o).take n)[j]? = some v → cellAt w b (o + j) = some v := by
  intro j v hv
  rw [h.cell]
  have hj : j < n := by
    have := (List.getElem?_eq_some_iff.1 hv).1
    simp at this; omega
  rw [List.getElem?_take_of_lt hj, List.getElem?_drop] at hv
  exact hv

theorem load_ok (hX : TbOK X P) (hi : Inv X P E V w) {t : Nat} {va x : AV} {y : Value} (h : loadAV A X V t va = some x) (ha : RV0 X E va y) :
    ∃ u, (Instr.loadAt t y).run P w = .ok u w ∧ RV0 X E x u := by
  unfold loadAV at h
  split at h
  · -- a variable
    rename_i r p
    split at h
    · rename_i u v hV
      split at h
      · rename_i hty
        simp only [Option.some.injEq] at h; subst h
        rw [rv_of_scalar rfl] at ha; simp only [R] at ha
        obtain ⟨b, t0, o, hy, hg, ho⟩ := ha
        simp only [List.cons.injEq, and_true] at hy; subst hy
        obtain ⟨b', hb, hf, cs, hc, hr⟩ := hi.blk hV hg
        simp only [Gh.blk.injEq] at hb; obtain ⟨rfl, rfl⟩ := hb
        obtain ⟨t', ht', hs, hk⟩ := tyIs_some hty
        have htd := sameT_td hX hs
        obtain ⟨h1, h2, h3⟩ := getP_ok hX A p v _ t' o cs hr hf ho ht'
        rw [htd] at h1 h2
        obtain ⟨z, hz, hv⟩ := run_loadVar (P := P) (w := w) hX hk (b := b) (o := o) (cs := (cs.drop o).take (X.td t).size) hc.at (by simp; omega)
        refine ⟨z, by simp only [Instr.loadAt, Instr.sureAddr, Sem.run_bind, Sem.run_pure, Result.andThen_ok, hz], _, ((norm_ok _ _).1).2 h1, ?_⟩
        rw [(norm_ok (X := X) (E := E) _ []).2.2, (h3.szA hX _ _).2, htd]; exact hv
      · cases h
    · cases h
  · -- an element
    rename_i r g i p
    split at h
    · rename_i e q g' hV
      split at h
      · rename_i hc0
        simp only [Bool.and_eq_true, beq_iff_eq] at hc0
        obtain ⟨rfl, hty⟩ := hc0
        simp only [Option.some.injEq] at h; subst h
        rw [rv_of_scalar rfl] at ha; simp only [R] at ha
        obtain ⟨b, e0, g0, n, cap, y', hy, _, hg, hle, hgo⟩ := ha
        simp only [List.cons.injEq, and_true] at hy; subst hy
        obtain ⟨b', cap', hb, hcap, hst, cs, ds, hc, hr, hlen, htake⟩ := hi.arr hV hg
        simp only [Gh.arr.injEq] at hb; obtain ⟨rfl, rfl, rfl, rfl, rfl⟩ := hb
        obtain ⟨h0, h1, o, ho, rfl⟩ := hgo rfl
        have hsz := stOK_size hX hst
        obtain ⟨t', ht', hs, hk⟩ := tyIs_some hty
        have htd := sameT_td hX hs
        have hlt : i.toNat < q.length := by omega
        obtain ⟨h2, h3, h4⟩ := SqR.get hr i.toNat hlt
        obtain ⟨h5, h6⟩ := offD_of hX A p _ _ t' o (stOK_fit hst hr hlt) ho ht'
        obtain ⟨h7, h8⟩ := getPD_ok A p _ _ o h2 h5
        have h9 := Fit.szD hX _ t' h6
        rw [h9.1, htd] at h7 h8
        subst htake
        have hlq : ((cs.take (q.length * (X.td e0).size)).drop (i.toNat * q.st)).length ≥ q.st := by
          simp only [List.length_drop] at h4 ⊢; omega
        rw [drop_take_drop_take _ _ _ _ _ (by simp only [List.length_take] at h8; omega)] at h7
        have h10 : i.toNat * q.st + o + (X.td t).size ≤ q.length * (X.td e0).size := by
          simp only [List.length_take] at h8
          have : i.toNat * q.st + q.st ≤ q.length * q.st := by rw [← Nat.succ_mul]; exact Nat.mul_le_mul_right _ hlt
          rw [hsz] at this ⊢; rw [hsz] at h8; omega
        have h11 : (((cs.take (q.length * (X.td e0).size)).drop (i.toNat * q.st + o)).take (X.td t).size) = (cs.drop (i.toNat * q.st + o)).take (X.td t).size := by
          rw [List.drop_take, List.take_take]; congr 1; omega
        rw [h11] at h7
        have h12 : cs.length ≥ q.length * (X.td e0).size := by rw [hlen]; exact Nat.mul_le_mul_right _ hcap
        rw [hsz] at h7 h10
        obtain ⟨z, hz, hv⟩ := run_loadVar (P := P) (w := w) hX hk (b := b) (o := i.toNat * (X.td e0).size + o) (cs := (cs.drop (i.toNat * (X.td e0).size + o)).take (X.td t).size) hc.at (by simp; omega)
        refine ⟨z, by simp only [Instr.loadAt, Instr.sureAddr, Sem.run_bind, Sem.run_pure, Result.andThen_ok, hz], _, by simp only [R, Sq.get_at]; exact h7, ?_⟩
        simp only [AV.isAgg, Sq.get_at]; rw [h9.2, htd]; exact hv
      · cases h
    · cases h
  · -- fast memory
    rename_i x0 p
    split at h
    · rename_i hc0
      simp only [Bool.and_eq_true] at hc0
      obtain ⟨hfit, hk⟩ := hc0
      simp only [Option.some.injEq] at h; subst h
      rw [rv_of_scalar rfl] at ha; simp only [R] at ha
      obtain ⟨b, o, ds, off, hy, hd, hca, hoff⟩ := ha
      simp only [List.cons.injEq, and_true] at hy; subst hy
      obtain ⟨h1, h2⟩ := getPD_ok A p x0 ds off hd hoff
      have h3 := Fit.szD hX _ t (fits_Fit hfit)
      rw [h3.1] at h1 h2
      obtain ⟨z, hz, hv⟩ := run_loadVar (P := P) (w := w) hX hk (b := b) (o := o + off) (cs := (ds.drop off).take (X.td t).size) (by
        intro j v hv
        have hj : j < (X.td t).size := by
          have := (List.getElem?_eq_some_iff.1 hv).1
          simp at this; omega
        rw [List.getElem?_take_of_lt hj, List.getElem?_drop] at hv
        rw [Nat.add_assoc]; exact hi.fast _ _ _ (hca _ _ hv)) (by simp; omega)
      refine ⟨z, by simp only [Instr.loadAt, Instr.sureAddr, Sem.run_bind, Sem.run_pure, Result.andThen_ok, hz], _, by simp only [R]; exact h1, ?_⟩
      simp only [AV.isAgg]; rw [h3.2]; exact hv
    · cases h
  · cases h

theorem own_of {b : Nat} {t : Nat} {O : Nat → Nat → Prop} (h : ∀ x y, O x y → x = b) {w w' : World} (hk : Kept O w w') : Kept (own (.blk b t)) w w' :=
  hk.mono fun x y _ hxy => h x y hxy

theorem store_ok (hX : TbOK X P) (hi : Inv X P E V w) {t : Nat} {va vx : AV} {V' : List AO} {ob : List Bool} {ya yx : Value} (h : storeAV A X V t va vx = some (V', ob)) (ho : Obl ob)
    (ha : RV0 X E va ya) (hx : RV0 X E vx yx) : ∃ w', (Instr.storeAt t ya yx).run P w = .ok () w' ∧ Inv X P E V' w' ∧ Ext E w E w' := by
  obtain ⟨xs, hxr, hxv⟩ := hx
  unfold storeAV at h
  split at h
  · rename_i r p
    split at h
    · rename_i u v hV
      split at h
      · rename_i hc0
        simp only [Bool.and_eq_true] at hc0
        obtain ⟨⟨hty, hfit⟩, hsol⟩ := hc0
        split at h
        · rename_i v' o' hset
          simp only [Option.some.injEq, Prod.mk.injEq] at h; obtain ⟨rfl, rfl⟩ := h
          rw [rv_of_scalar rfl] at ha; simp only [R] at ha
          obtain ⟨b, t0, o, hy, hg, hof⟩ := ha
          simp only [List.cons.injEq, and_true] at hy; subst hy
          obtain ⟨b', hb, hf, cs, hc, hr⟩ := hi.blk hV hg
          simp only [Gh.blk.injEq] at hb; obtain ⟨rfl, rfl⟩ := hb
          obtain ⟨t', ht', hs, hk⟩ := tyIs_some hty
          have htd := sameT_td hX hs
          have hfx := fits_Fit hfit
          obtain ⟨h1, h2, h3⟩ := getP_ok hX A p v _ t' o cs hr hf hof ht'
          obtain ⟨h4, h5, h6⟩ := setP_ok hX A p v vx v' o' _ t' o cs xs hset ho hr hxr hf hof ht' (hfx.sh h3 htd.symm)
          have hone := R.one vx xs hxr hsol
          obtain ⟨w', h7, h8, h9⟩ := run_storeVar (P := P) hX hk (VOf_cells hxv hone) hone (by rw [R.len vx xs hxr]; exact (hfx.szA hX vx t).1) hc h6
          obtain ⟨h10, h11⟩ := hi.putIn (o' := .blk _ v') hg (own_of (fun x y hxy => hxy.1) h8) ⟨rfl, hf.of_sh h5, _, h9, h4⟩
          exact ⟨w', by simp only [Instr.storeAt, Instr.sureAddr, Sem.run_bind, Sem.run_pure, Result.andThen_ok, h7], by rw [lset_eq]; exact h10, h11⟩
        · cases h
      · cases h
    · cases h
  · rename_i r g i p
    split at h
    · rename_i e q g' y hV
      split at h
      · rename_i hc0
        simp only [Bool.and_eq_true, beq_iff_eq] at hc0
        obtain ⟨⟨rfl, hty⟩, hfit⟩ := hc0
        split at h
        · rename_i z ob1 hz
          split at h
          · rename_i q' ob2 hq'
            simp only [Option.some.injEq, Prod.mk.injEq] at h; obtain ⟨rfl, rfl⟩ := h
            rw [Obl_append] at ho
            rw [rv_of_scalar rfl] at ha; simp only [R] at ha
            obtain ⟨b, e0, g0, n, cap, y', hy, _, hg, hle, hgo⟩ := ha
            simp only [List.cons.injEq, and_true] at hy; subst hy
            obtain ⟨b', cap', hb, hcap, hst, cs, ds, hc, hr, hlen, htake⟩ := hi.arr hV hg
            simp only [Gh.arr.injEq] at hb; obtain ⟨rfl, rfl, rfl, rfl, rfl⟩ := hb
            obtain ⟨h0, h1, o, hof, rfl⟩ := hgo rfl
            have hsz := stOK_size hX hst
            obtain ⟨t', ht', hs, hk⟩ := tyIs_some hty
            have htd := sameT_td hX hs
            have hlt : i.toNat < q.length := by omega
            obtain ⟨h2, h3, h4⟩ := SqR.get hr i.toNat hlt
            have hfe := stOK_fit hst hr hlt
            obtain ⟨h5, h6⟩ := offD_of hX A p _ _ t' o hfe hof ht'
            have hfx := fits_Fit hfit
            simp only [R] at hxr
            rw [Sq.get_at] at hz
            have hshx : shD y = shD (getPD A p (q.at i.toNat)) := hfx.sh h6 htd.symm
            obtain ⟨h7, h8, h9⟩ := setPD_ok A p (q.at i.toNat) y z ob1 o _ xs hz ho.1 h2 hxr h5 hshx
            obtain ⟨h10, h11, h12⟩ := Sq.set_ok hq' ho.2 hr h7 h0 (by omega)
            have hone := DRel.one y xs hxr
            have hxl := DRel.len y xs hxr
            have hyl := (Fit.szD hX y t hfx).1
            have hll : ((cs.take (q.length * (X.td e0).size)).drop (i.toNat * q.st)).length ≥ q.st := by
              rw [List.length_drop]; subst htake; omega
            subst htake
            have h13 : o + xs.length ≤ q.st := by
              have : ((List.drop (i.toNat * q.st) (List.take (q.length * (X.td e0).size) cs)).take q.st).length = q.st := by rw [List.length_take]; omega
              omega
            have hiq : i.toNat * q.st + q.st ≤ q.length * q.st := by rw [← Nat.succ_mul]; exact Nat.mul_le_mul_right _ hlt
            have hcl : q.length * (X.td e0).size ≤ cs.length := by rw [hlen]; exact Nat.mul_le_mul_right _ hcap
            obtain ⟨w', h14, h15, h16⟩ := run_storeVar (P := P) (w := w) (b := b) (o := i.toNat * (X.td e0).size + o) hX hk (VOf_cells hxv hone) hone (by rw [hxl]; exact hyl) hc (by rw [hsz] at hiq h13; omega)
            have hlz : ((List.drop (i.toNat * q.st) (List.take (q.length * (X.td e0).size) cs)).take q.st).length = q.st := by rw [List.length_take]; omega
            have e1 := splice (List.take (q.length * (X.td e0).size) cs) xs (i.toNat * q.st) q.st o (by rw [List.length_take]; rw [hsz] at hiq ⊢; omega) h13
            have hzl := DRel.len z _ h7
            rw [shD_sz, h8, ← shD_sz, h3] at hzl
            rw [hzl, e1] at h10
            have e2 : List.take (i.toNat * q.st + o) (List.take (q.length * (X.td e0).size) cs) ++ xs ++ List.drop (i.toNat * q.st + o + xs.length) (List.take (q.length * (X.td e0).size) cs) =
                List.take (q.length * (X.td e0).size) (List.take (i.toNat * (X.td e0).size + o) cs ++ xs ++ List.drop (i.toNat * (X.td e0).size + o + xs.length) cs) := by
              rw [hsz] at hiq h13 ⊢
              rw [List.take_take, Nat.min_eq_left (by omega), List.take_append, List.length_append, List.length_take, Nat.min_eq_left (by omega),
                List.take_of_length_le (i := q.length * (X.td e0).size) (l := List.take (i.toNat * (X.td e0).size + o) cs ++ xs) (by rw [List.length_append, List.length_take]; omega), List.drop_take]
            rw [e2] at h10
            have hq1 : stOK X e0 q' = true := Sq.kd_ok h12.symm hst
            obtain ⟨h17, h18⟩ := hi.putIn (o' := .arr e0 q' _) hg (g := .arr b e0 _ q.length cap) (h15.mono fun x y _ hxy => hxy.1) (by
              refine ⟨rfl, rfl, h11, hcap, hq1, _, _, h16, h10, ?_, rfl⟩
              simp only [List.length_append, List.length_take, List.length_drop]; rw [hsz] at hiq h13; omega)
            exact ⟨w', by simp only [Instr.storeAt, Instr.sureAddr, Sem.run_bind, Sem.run_pure, Result.andThen_ok, h14], by rw [lset_eq]; exact h17, h18⟩
          · cases h
        · cases h
      · cases h
    · cases h
  · cases h

theorem Env.le_add (E : Env) (l : List Gh) : E.le ⟨E.Γ, E.ρ ++ l⟩ :=
  ⟨fun _ _ _ h => h, fun r2 g2 h2 => ⟨g2, by
      have := (List.getElem?_eq_some_iff.1 h2).1
      simp [List.getElem?_append_left this, h2], g2.le_refl⟩⟩

/-- A new variable. -/
theorem newVar_ok (hi : Inv X P E V w) {t : Nat} {v v' : AV} {y : Value} {cs : List Value} (hr : R X E v cs) (hy : y.cells.toList = cs) (hf : Fit X t v)
    (he : ∀ E cs, R X E v' cs ↔ R X E v cs) (hsh : shA v' = shA v) :
    ∃ w' E', (newVar t y).run P w = .ok ⟨w.heap.size, 0, none⟩ w' ∧ Inv X P E' (V ++ [.blk t v']) w' ∧ Ext E w E' w' ∧ E' = ⟨E.Γ, E.ρ ++ [.blk w.heap.size t]⟩ := by
  refine ⟨World.push w (.cells y.cells t), ⟨E.Γ, E.ρ ++ [.blk w.heap.size t]⟩, by simp [newVar, newRow, World.push], ?_⟩
  have := hi.add (w' := World.push w (.cells y.cells t)) (g' := .blk w.heap.size t) (o' := .blk t v') (Γ' := E.Γ) (Kept.push _ w _) (fun _ _ _ h => h)
    (fun b o ho => by simp only [own] at ho; subst ho; exact ⟨Nat.le_refl _, by rw [push_size]; omega⟩) (fun b o v hv => .inl hv)
    ⟨rfl, hf.of_sh hsh, cs, ⟨y.cells, t, (0, 0), push_new w _, .inl rfl, hy⟩, (he _ _).2 (R.mono (Env.le_add E _) _ _ hr)⟩
  exact ⟨this.1, this.2, rfl⟩

theorem new_ptr (hi : Inv X P E V w) {t b : Nat} : RV0 X ⟨E.Γ, E.ρ ++ [.blk b t]⟩ (.ptr (llen V) []) (.pointer (some ⟨b, 0, none⟩)) := by
  rw [rv_of_scalar rfl]; simp only [R]
  exact ⟨b, t, 0, rfl, by rw [llen_eq, ← hi.len]; simp, rfl⟩
end
end Go.Sk
