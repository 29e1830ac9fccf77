/- Sk, part S: new rows; literals of structs and arrays. -/
import Derived.Test.YtlheciphihmomaaGreatDoorSkR
import Derived.Laws.Tables
import Derived.Great.BuildSlice
set_option linter.all false
namespace Go.Sk
open Go

section
variable {X : Tb} {P : Program} {E : Env} {V : List AO} {w w' : World} {A : Ari} {fr : List AV} {a : Act}

/-! ### New rows -/
theorem CellsOK.lt {b : Nat} {cs : List Value} (h : CellsOK w b cs) : b < w.heap.size := by
  obtain ⟨c, te, fz, h1, _⟩ := h; exact (Array.getElem?_eq_some_iff.1 h1).1

/-- A new row that stays. -/
theorem Inv.row0 (hi : Inv X P E V w) {cs rest : List Value} (hk : Kept (fun _ _ => False) w w') (hc : CellsOK w' w.heap.size (cs ++ rest)) :
    Inv X P ⟨E.Γ.add w.heap.size 0 cs, E.ρ⟩ V w' ∧ Ext E w ⟨E.Γ.add w.heap.size 0 cs, E.ρ⟩ w' := by
  refine hi.more hk (Gam.add_old fun o _ _ => hi.noneAt (Nat.le_refl _)) ?_
  intro b o v hv
  rcases Gam.add_some hv with h | ⟨rfl, _, h2, h3⟩
  · exact .inl h
  · refine .inr ⟨Nat.le_refl _, ?_⟩
    rw [hc.cell, List.getElem?_append_left (by omega)]; simpa using h3

/-- A new row that may grow. -/
theorem Inv.row1 (hi : Inv X P E V w) {cs rest : List Value} (hk : Kept (fun _ _ => False) w w') (hc : CellsOK w' w.heap.size (cs ++ rest)) :
    let E' : Env := ⟨E.Γ.add w.heap.size 0 cs, E.ρ ++ [.tok (fun k => if k = 0 then some (w.heap.size, cs.length, cs.length + rest.length) else none) 0]⟩
    Inv X P E' (V ++ [.grow 0]) w' ∧ Ext E w E' w' := by
  refine hi.add (g' := .tok _ 0) (o' := .grow 0) hk (Gam.add_old fun o _ _ => hi.noneAt (Nat.le_refl _)) ?_ ?_ ?_
  · rintro b o ⟨b', lo, hh, hτ, rfl, _, _⟩
    simp only [if_true, Option.some.injEq, Prod.mk.injEq] at hτ
    obtain ⟨rfl, _⟩ := hτ
    exact ⟨Nat.le_refl _, hc.lt⟩
  · intro b o v hv
    rcases Gam.add_some hv with h | ⟨rfl, _, h2, h3⟩
    · exact .inl h
    · refine .inr ⟨Nat.le_refl _, ?_, ?_⟩
      · rintro ⟨b', lo, hh, hτ, _, h4, _⟩
        simp only [if_true, Option.some.injEq, Prod.mk.injEq] at hτ
        omega
      · rw [hc.cell, List.getElem?_append_left (by omega)]; simpa using h3
  · refine ⟨rfl, fun b lo hh hτ => ?_⟩
    simp only [if_true, Option.some.injEq, Prod.mk.injEq] at hτ
    obtain ⟨rfl, _, rfl⟩ := hτ
    exact ⟨_, hc, by simp⟩

/-- A new row that is written. -/
theorem Inv.row2 (hi : Inv X P E V w) {e cap : Nat} {q : Sq D} {cs rest : List Value} (hk : Kept (fun _ _ => False) w w') (hc : CellsOK w' w.heap.size (cs ++ rest))
    (hst : stOK X e q = true) (hq : SqR E.Γ q cs) (hcl : cs.length = q.length * (X.td e).size) (hle : q.length ≤ cap) (hl : (cs ++ rest).length = cap * (X.td e).size) :
    let E' : Env := ⟨E.Γ, E.ρ ++ [.arr w.heap.size e 0 q.length cap]⟩
    Inv X P E' (V ++ [.arr e q 0]) w' ∧ Ext E w E' w' :=
  hi.add (g' := .arr w.heap.size e 0 q.length cap) (o' := .arr e q 0) hk (fun _ _ _ h => h)
    (fun b o h => by simp only [own] at h; subst h; exact ⟨Nat.le_refl _, hc.lt⟩) (fun b o v hv => .inl hv)
    ⟨rfl, rfl, rfl, hle, hst, cs ++ rest, cs, hc, hq, hl, by rw [← hcl]; simp⟩

/-! ### Filling -/
theorem foldl_set {off : Nat} : ∀ (vs : List Value) (i : Nat) (cs : Array Value), off + i + vs.length ≤ cs.size →
    ((vs.zipIdx i).foldl (fun (cs : Array Value) (c : Value × Nat) => cs.setIfInBounds (off + c.2) c.1) cs).toList = cs.toList.take (off + i) ++ vs ++ cs.toList.drop (off + i + vs.length)
  | [], i, cs, h => by simp
  | v :: vs, i, cs, h => by
    simp only [List.zipIdx_cons, List.foldl_cons, List.length_cons] at h ⊢
    rw [foldl_set vs (i + 1) _ (by simp; omega)]
    have e : (cs.setIfInBounds (off + i) v).toList = cs.toList.set (off + i) v := by simp
    rw [e]
    apply List.ext_getElem?
    intro j
    have hsz : cs.toList.length = cs.size := by simp
    rcases Nat.lt_trichotomy j (off + i) with h1 | h1 | h1
    · rw [List.append_assoc, List.getElem?_append_left (by simp; omega), List.append_assoc, List.getElem?_append_left (by simp; omega)]
      rw [List.getElem?_take_of_lt (by omega), List.getElem?_take_of_lt (by omega), List.getElem?_set_ne (by omega)]
    · subst h1
      rw [List.append_assoc, List.getElem?_append_left (by simp; omega), List.append_assoc, List.getElem?_append_right (by simp; omega)]
      rw [List.getElem?_take_of_lt (by omega), List.getElem?_set_self (by omega)]
      simp; rw [show off + i - min (off + i) cs.size = 0 by omega]; rfl
    · by_cases h2 : j < off + i + 1 + vs.length
      · rw [List.append_assoc, List.getElem?_append_right (by simp; omega), List.getElem?_append_left (by simp; omega)]
        rw [List.append_assoc, List.getElem?_append_right (by simp; omega), List.getElem?_append_left (by simp; omega)]
        simp only [List.length_take, List.length_set, hsz]
        rw [show j - min (off + i) cs.size = (j - min (off + (i + 1)) cs.size) + 1 by omega]; simp
      · rw [List.getElem?_append_right (by simp; omega), List.getElem?_append_right (by simp; omega)]
        simp only [List.getElem?_drop, List.length_append, List.length_take, List.length_set, hsz, List.length_cons]
        rw [List.getElem?_set_ne (by omega)]
        congr 1; omega

theorem fill_one {v : Value} {vs : List Value} (hv : v.cells.toList = vs) {off : Nat} {cs : Array Value} (h : off + vs.length ≤ cs.size) :
    (v.cells.zipIdx.foldl (fun cs (c, j) => cs.setIfInBounds (off + j) c) cs).toList = cs.toList.take off ++ vs ++ cs.toList.drop (off + vs.length) := by
  rw [← Array.foldl_toList, Array.toList_zipIdx, hv]
  have := foldl_set (off := off) vs 0 cs (by omega)
  simpa using this

/-- Parts, with their places. -/
def PsR (X : Tb) (E : Env) : List (Nat × AV) → List (Nat × Value) → Prop
  | [], ys => ys = []
  | p :: l, ys => ∃ y r, ys = (p.1, y) :: r ∧ RV0 X E p.2 y ∧ PsR X E l r

theorem psR_ok (hf : FrOK X E fr a.tmps) : ∀ (l : List (Nat × Operand)), Obl (oos A fr (l.map (·.2))) → PsR X E (l.map fun p => (p.1, ov fr p.2)) (l.map fun (i, x) => (i, a.eval x))
  | [], _ => by simp [PsR]
  | p :: l, ho => by
    simp only [List.map_cons, oos, Obl_append] at ho
    exact ⟨_, _, rfl, ov_ok hf p.2 ho.1, psR_ok hf l ho.2⟩

theorem allKn_of {fs : List Nat} (h : allKn X fs = true) : ∀ t, t ∈ fs → kn X t = true := by
  induction fs with
  | nil => intro t ht; cases ht
  | cons a l ih =>
    simp only [allKn, Bool.and_eq_true] at h
    intro t ht
    rcases List.mem_cons.1 ht with rfl | ht
    · exact h.1
    · exact ih h.2 t ht

theorem info_kn (hX : TbOK X P) {t : Nat} (hk : kn X t = true) : ∃ i z, P.info? t = some i ∧ i.size = (X.td t).size ∧ i.bytes = X.bytes t ∧ i.zero = some z ∧ ∃ cs, DRel (fun _ _ => none) (zeroD X depth t) cs ∧ VOf (X.td t).isAgg cs z ∧ cs.length = (X.td t).size := by
  obtain ⟨h1, h2⟩ := kn_td hk
  have hty := hX.known (t := t) rfl h1 h2
  obtain ⟨i, hi, hz⟩ := hty.zero
  obtain ⟨i', hi', hs, hb, hzz⟩ := hty.info
  rw [hi] at hi'; cases hi'
  obtain ⟨z, hz⟩ := Option.isSome_iff_exists.1 hz
  exact ⟨i, z, hi, hs, hb, hz, hzz z hz⟩

theorem places_ok (hX : TbOK X P) : ∀ (fs : List Field), (∀ f, f ∈ fs → kn X f.type = true) →
    fs.mapM (fun f => (P.info? f.type).map fun i => (f.offset, i.size)) = some (fs.map fun f => (f.offset, (X.td f.type).size))
  | [], _ => by simp
  | f :: fs, h => by
    obtain ⟨i, _, hi, hs, _⟩ := info_kn hX (h f (List.mem_cons_self ..))
    simp [List.mapM_cons, hi, hs, places_ok hX fs fun g hg => h g (List.mem_cons_of_mem _ hg)]

theorem buildParts_ok (hX : TbOK X P) {t : Nat} (hag : (X.td t).isAgg = true) {place : Nat → Option (Nat × Nat)}
    (hs : ∀ i sz fs, X.td t = .strct sz fs → i < fs.length → place i = some (sumSz X fs i, (X.td (lget fs i)).size))
    (ha : ∀ i sz n e, X.td t = .arr sz n e → place i = some (i * (X.td e).size, (X.td e).size)) :
    ∀ (ps : List (Nat × AV)) (ys : List (Nat × Value)) (z v : AV) (o : List Bool) (cs : Array Value), buildParts A X t z ps = some (v, o) → Obl o → PsR X E ps ys → R X E z cs.toList → Fit X t z →
      ∃ cs', Instr.fill place cs ys = some cs' ∧ R X E v cs'.toList ∧ Fit X t v
  | [], ys, z, v, o, cs, h, ho, hp, hr, hf => by
    simp only [buildParts, Option.some.injEq, Prod.mk.injEq] at h; obtain ⟨rfl, rfl⟩ := h
    simp only [PsR] at hp; subst hp
    exact ⟨cs, rfl, hr, hf⟩
  | (i, x) :: ps, ys, z, v, o, cs, h, ho, hp, hr, hf => by
    obtain ⟨y, ys, rfl, ⟨xs, hx, hv⟩, hp⟩ := hp
    simp only at hx hv
    have main : ∀ (pe : PE) (u off : Nat) (z' : AV) (o1 o2 : List Bool), setP A [pe] z x = some (z', o1) → buildParts A X t z' ps = some (v, o2) → o = o1 ++ o2 → offT X [pe] t = some off → tyAt X [pe] t = some u →
        Fit X u x → solid x = true → place i = some (off, (X.td u).size) → ∃ cs', Instr.fill place cs ((i, y) :: ys) = some cs' ∧ R X E v cs'.toList ∧ Fit X t v := by
      intro pe u off z' o1 o2 hset hrest ho' hoff hty hfx hsol hpl
      subst ho'
      rw [Obl_append] at ho
      obtain ⟨_, _, hg⟩ := getP_ok hX A [pe] z t u off cs.toList hr hf hoff hty
      obtain ⟨h1, h2, h3⟩ := setP_ok hX A [pe] z x z' o1 t u off cs.toList xs hset ho.1 hr hx hf hoff hty (hfx.sh hg rfl)
      have hy := VOf_cells hv (R.one _ _ hx hsol)
      have hlen : xs.length = (X.td u).size := by rw [R.len _ _ hx, (hfx.szA hX x u).1]
      have hys : y.cells.size = xs.length := by rw [← hy]; simp
      have hfill := fill_one (off := off) (cs := cs) hy (by simpa using h3)
      obtain ⟨cs', h4, h5, h6⟩ := buildParts_ok hX hag hs ha ps ys z' v o2 (y.cells.zipIdx.foldl (fun cs (c, j) => cs.setIfInBounds (off + j) c) cs) hrest ho.2 hp (by rw [hfill]; exact h1) (hf.of_sh h2)
      refine ⟨cs', ?_, h5, h6⟩
      unfold Instr.fill
      simp only [hpl]
      rw [if_neg (by simp only [Bool.or_eq_true, decide_eq_true_eq, not_or]; refine ⟨by simp [hys, hlen], ?_⟩; rw [hys]; simp at h3; omega)]
      exact h4
    unfold buildParts at h
    split at h
    · rename_i sz fs htd
      split at h
      · rename_i hc
        simp only [Bool.and_eq_true, Nat.blt_eq, llen_eq] at hc
        obtain ⟨⟨⟨h1, h2⟩, h3⟩, h4⟩ := hc
        split at h
        · rename_i z' o1 hset
          split at h
          · rename_i v' o2 hrest
            simp only [Option.some.injEq, Prod.mk.injEq] at h; obtain ⟨rfl, rfl⟩ := h
            exact main (.f i) (lget fs i) (sumSz X fs i) z' o1 o2 hset hrest rfl (offT_f htd h1) (by simp [tyAt, htd, llen_eq, h1]) (fits_Fit h3) h4 (hs i sz fs htd h1)
          · cases h
        · cases h
      · cases h
    · rename_i sz n e htd
      split at h
      · rename_i hc
        simp only [Bool.and_eq_true, Nat.blt_eq] at hc
        obtain ⟨⟨⟨h1, h2⟩, h3⟩, h4⟩ := hc
        split at h
        · rename_i z' o1 hset
          split at h
          · rename_i v' o2 hrest
            simp only [Option.some.injEq, Prod.mk.injEq] at h; obtain ⟨rfl, rfl⟩ := h
            exact main (.i (i : Int)) e (i * (X.td e).size) z' o1 o2 hset hrest rfl (by simp [offT, htd]; omega) (by simp [tyAt, htd, h2]) (fits_Fit h3) h4 (ha i sz n e htd)
          · cases h
        · cases h
      · cases h
    · cases h

theorem build_ok (hX : TbOK X P) {t : Nat} {ps : Array (Nat × Operand)} {v : AV} {o : List Bool} (hk : kn X t = true) (hfz : fits X t (.d (zeroD X depth t)) = true) (hka : knAll X t = true)
    (h : buildParts A X t (expandD (zeroD X depth t)) (ps.toList.map fun p => (p.1, ov fr p.2)) = some (v, o)) (ho : Obl o) (ho' : Obl (oos A fr (ps.toList.map (·.2)))) (hf : FrOK X E fr a.tmps) (hag : (X.td t).isAgg = true) :
    ∃ z, (Instr.build t (ps.map fun (i, x) => (i, a.eval x))).run P w = .ok z w ∧ RV0 X E (norm v) z := by
  obtain ⟨i, z, hi, hsz, _, hz, zs, hd, hv, hlen⟩ := info_kn hX hk
  have hd' : DRel E.Γ (zeroD X depth t) zs := DRel.mono (fun _ _ _ h => by cases h) _ _ hd
  rw [hag] at hv
  simp only [VOf] at hv; subst hv
  have hp := psR_ok (X := X) (E := E) (A := A) hf ps.toList ho'
  have hr : R X E (expandD (zeroD X depth t)) (zs.toArray).toList := (expandD_ok _ _).1.2 hd'
  have hfe : Fit X t (expandD (zeroD X depth t)) := (fits_Fit hfz).of_sh (expandD_ok (X := X) (E := E) _ zs).2
  have hys : (ps.map fun (i, x) => (i, a.eval x)).toList = ps.toList.map fun (i, x) => (i, a.eval x) := by simp
  obtain ⟨hn1, hn2⟩ := kn_td hk
  obtain ⟨u, hu, hdesc⟩ := (hX.known rfl hn1 hn2).und
  have fin : ∀ cs', R X E v cs'.toList → Fit X t v → RV0 X E (norm v) (.agg cs') := by
    intro cs' h1 h2
    obtain ⟨h3, _, h4⟩ := norm_ok (X := X) (E := E) v cs'.toList
    exact ⟨_, h3.2 h1, by rw [h4, (h2.szA hX v t).2, hag]; simp [VOf]⟩
  cases htd : X.td t <;> rw [htd] at hag hdesc <;> try (cases hag; done)
  case strct sz fs =>
    obtain ⟨f, rfl, hft, hfo, _⟩ := hdesc
    have hkf : ∀ x, x ∈ f.toList → kn X x.type = true := by
      intro x hx
      simp only [knAll, htd] at hka
      exact allKn_of hka _ (by rw [← hft]; exact List.mem_map_of_mem hx)
    have hpl := places_ok hX f.toList hkf
    obtain ⟨cs', h1, h2, h3⟩ := buildParts_ok hX (by rw [htd]; rfl) (place := fun x => ((f.toList.map fun f => (f.offset, (X.td f.type).size)).toArray)[x]?) (fun i sz' fs' ht' hlt => by
        rw [htd] at ht'; cases ht'
        have hlt' : i < f.size := by have := congrArg List.length hft; simp at this; omega
        have hfi : f[i]? = some f[i] := Array.getElem?_eq_getElem hlt'
        have hty : lget fs i = f[i].type := lget_of (by rw [← hft]; simp [hfi])
        simp [hlt', hfo i _ hfi, hty]) (fun i sz' n' e' ht' => by rw [htd] at ht'; cases ht') _ _ _ _ _ zs.toArray h ho hp hr hfe
    refine ⟨_, run_build w t _ cs' ?_, fin _ h2 h3⟩
    simp only [Program.built, hi, hu, hz, hpl]
    rw [hys]; exact h1
  case arr sz n e =>
    obtain ⟨rfl, hsz'⟩ := hdesc
    simp only [knAll, htd] at hka
    obtain ⟨ie, _, hie, hes, _⟩ := info_kn hX hka
    obtain ⟨cs', h1, h2, h3⟩ := buildParts_ok hX (by rw [htd]; rfl) (place := fun i => some (i * ie.size, ie.size)) (fun i sz' fs' ht' hlt => by rw [htd] at ht'; cases ht')
      (fun i sz' n' e' ht' => by rw [htd] at ht'; cases ht'; rw [hes]) _ _ _ _ _ zs.toArray h ho hp hr hfe
    refine ⟨_, run_build w t _ cs' ?_, fin _ h2 h3⟩
    simp only [Program.built, hi, hu, hz, hie]
    rw [hys]; exact h1

end
end Go.Sk
