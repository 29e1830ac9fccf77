/- Sk, part U: slices written out; texts and bytes; copies into arrays. -/
import Derived.Test.YtlheciphihmomaaGreatDoorSkT
set_option linter.all false
namespace Go.Sk
open Go

section
variable {X : Tb} {P : Program} {E : Env} {V : List AO} {w w' : World} {A : Ari} {fr : List AV} {a : Act}

theorem toB_ok {Γ : Gam} : ∀ (l : List D) (b : List UInt8) (o : List Bool) (cs : List Value), toB A l = some (b, o) → Obl o → DsRel Γ l cs → cs = b.map (fun b => Value.int .u8 (b.toNat : Int)) ∧ b.length = l.length
  | [], b, o, cs, h, ho, hr => by
    simp only [toB, Option.some.injEq, Prod.mk.injEq] at h; obtain ⟨rfl, rfl⟩ := h
    simp only [DsRel] at hr; subst hr; simp
  | x :: l, b, o, cs, h, ho, hr => by
    simp only [toB] at h
    unfold consB at h
    split at h
    · rename_i n b' o' hb
      simp only [Option.some.injEq, Prod.mk.injEq] at h; obtain ⟨rfl, rfl⟩ := h
      simp only [Obl, A.inb_eq] at ho
      obtain ⟨c1, c2, rfl, h1, h2⟩ := hr
      simp only [DRel] at h1; subst h1
      obtain ⟨rfl, h4⟩ := toB_ok l b' o' c2 hb ho.2 h2
      refine ⟨?_, by simp [h4]⟩
      have : ((UInt8.ofNat n.toNat).toNat : Int) = n := by
        rw [UInt8.toNat_ofNat']; omega
      simp only [A.byt_eq, List.map_cons, List.singleton_append, this]
    · cases h

theorem toS_ok {Γ : Gam} : ∀ (l : List D) (b : List (List UInt8)) (cs : List Value), toS l = some b → DsRel Γ l cs → cs = b.map (fun s => Value.string ⟨s.toArray⟩) ∧ b.length = l.length
  | [], b, cs, h, hr => by
    simp only [toS, Option.some.injEq] at h; subst h
    simp only [DsRel] at hr; subst hr; simp
  | x :: l, b, cs, h, hr => by
    simp only [toS] at h
    unfold consS at h
    split at h
    · rename_i n b' hb
      simp only [Option.some.injEq] at h; subst h
      obtain ⟨c1, c2, rfl, h1, h2⟩ := hr
      simp only [DRel] at h1; subst h1
      obtain ⟨rfl, h4⟩ := toS_ok l b' c2 hb h2
      exact ⟨by simp, by simp [h4]⟩
    · cases h

theorem toI_ok {Γ : Gam} {k : IntKind} : ∀ (l : List D) (b : List Int) (cs : List Value), toI k l = some b → DsRel Γ l cs → cs = b.map (fun n => Value.int k n) ∧ b.length = l.length
  | [], b, cs, h, hr => by
    simp only [toI, Option.some.injEq] at h; subst h
    simp only [DsRel] at hr; subst hr; simp
  | x :: l, b, cs, h, hr => by
    simp only [toI] at h
    unfold consI at h
    split at h
    · rename_i k' n b' hb
      split at h
      · rename_i hk
        have := ikEq_eq hk; subst this
        simp only [Option.some.injEq] at h; subst h
        obtain ⟨c1, c2, rfl, h1, h2⟩ := hr
        simp only [DRel] at h1; subst h1
        obtain ⟨rfl, h4⟩ := toI_ok l b' c2 hb h2
        exact ⟨by simp, by simp [h4]⟩
      · cases h
    · cases h

theorem shAll_ok {sh : Sh} : ∀ (l : List D), shAll sh l = true → D.shsAll sh l
  | [], _ => fun x hx => by cases hx
  | y :: l, h => by
    simp only [shAll, Bool.and_eq_true] at h
    intro x hx
    rcases List.mem_cons.1 hx with rfl | hx
    · exact shq_eq _ _ h.1
    · exact shAll_ok l h.2 x hx

theorem toSq_ok {Γ : Gam} {e : Nat} {l : List D} {q : Sq D} {o : List Bool} {cs : List Value} (h : toSq A X e l = some (q, o)) (ho : Obl o) (hr : DsRel Γ l cs) (hst : stOK X e (emptySq X e) = true) :
    SqR Γ q cs ∧ q.length = l.length ∧ stOK X e q = true := by
  unfold toSq at h
  split at h <;> rename_i htd
  · split at h
    · rename_i b o' hb
      simp only [Option.some.injEq, Prod.mk.injEq] at h; obtain ⟨rfl, rfl⟩ := h
      obtain ⟨h1, h2⟩ := toB_ok l b o' cs hb ho hr
      exact ⟨by simp only [SqR]; exact h1, h2, by simp [stOK, htd, isU8]⟩
    · cases h
  · rename_i k hk
    split at h
    · rename_i b hb
      simp only [Option.some.injEq, Prod.mk.injEq] at h; obtain ⟨rfl, rfl⟩ := h
      obtain ⟨h1, h2⟩ := toI_ok l b cs hb hr
      refine ⟨by simp only [SqR]; exact h1, h2, ?_⟩
      have : emptySq X e = .i k [] := by unfold emptySq; split <;> simp_all
      rw [this] at hst; exact hst
    · cases h
  · split at h
    · rename_i b hb
      simp only [Option.some.injEq, Prod.mk.injEq] at h; obtain ⟨rfl, rfl⟩ := h
      obtain ⟨h1, h2⟩ := toS_ok l b cs hb hr
      exact ⟨by simp only [SqR]; exact h1, h2, by simp [stOK, htd]⟩
    · cases h
  · split at h
    · rename_i hsh
      simp only [Option.some.injEq, Prod.mk.injEq] at h; obtain ⟨rfl, rfl⟩ := h
      refine ⟨by simp only [SqR]; exact ⟨hr, shAll_ok l hsh⟩, rfl, ?_⟩
      have : emptySq X e = .g (shT X depth e) [] := by unfold emptySq; split <;> first | rfl | simp_all
      rw [this] at hst; exact hst
    · cases h

theorem setAllD_ok (A : Ari) (hX : TbOK X P) {e : Nat} (hfz : fits X e (.d (zeroD X depth e)) = true) : ∀ (ps : List (Nat × AV)) (ys : List (Nat × Value)) (l l' : List D) (cs : Array Value),
    setAllD X e ps l = some l' → PsR X E ps ys → SqR E.Γ (.g (shT X depth e) l) cs.toList →
    ∃ cs', Instr.fill (fun i => some (i * (X.td e).size, (X.td e).size)) cs ys = some cs' ∧ SqR E.Γ (.g (shT X depth e) l') cs'.toList ∧ l'.length = l.length
  | [], ys, l, l', cs, h, hp, hr => by
    simp only [setAllD, Option.some.injEq] at h; subst h
    simp only [PsR] at hp; subst hp
    exact ⟨cs, rfl, hr, rfl⟩
  | (i, x) :: ps, ys, l, l', cs, h, hp, hr => by
    have hsz : (shT X depth e).sz = (X.td e).size := (shT_sz hX depth).1 e (shq_nox _ _ hfz)
    obtain ⟨y, ys, rfl, ⟨xs, hx, hv⟩, hp⟩ := hp
    simp only at hx hv
    cases x with
    | d d =>
      simp only [setAllD] at h
      split at h
      · rename_i hc
        simp only [Bool.and_eq_true, Nat.blt_eq, llen_eq] at hc
        obtain ⟨h1, h2⟩ := hc
        simp only [R] at hx
        have hshd : shD d = shT X depth e := shq_eq _ _ h2
        have hset : Sq.set A (i : Int) d (.g (shT X depth e) l) = some (.g (shT X depth e) (l.set i d), []) := by
          simp only [Sq.set, hshd]
          rw [if_pos (by rw [← hshd]; have := h2; unfold fits at this; simp only [shA] at this; rw [hshd] at this ⊢; exact this)]
          simp [A.set_eq]
        obtain ⟨h3, h4, h5⟩ := Sq.set_ok (A := A) hset trivial hr hx (by omega) (by simp [Sq.length]; exact h1)
        simp only [Int.toNat_natCast, Sq.st, hsz] at h3
        have hlen : xs.length = (X.td e).size := by rw [DRel.len _ _ hx, shD_sz, hshd, hsz]
        have hy := VOf_cells hv (DRel.one _ _ hx)
        have hys : y.cells.size = xs.length := by rw [← hy]; simp
        have hcl := SqR.len _ _ hr
        simp only [Sq.length, Sq.st, hsz, Array.length_toList] at hcl
        have hin : i * (X.td e).size + xs.length ≤ cs.size := by
          rw [hlen, hcl, ← Nat.succ_mul]; exact Nat.mul_le_mul_right _ h1
        have hfill := fill_one (off := i * (X.td e).size) (cs := cs) hy hin
        rw [lset_eq] at h
        obtain ⟨cs', h6, h7, h8⟩ := setAllD_ok A hX hfz ps ys (l.set i d) l' (y.cells.zipIdx.foldl (fun cs (c, j) => cs.setIfInBounds (i * (X.td e).size + j) c) cs) h hp (by rw [hfill]; exact h3)
        refine ⟨cs', ?_, h7, by rw [h8]; simp⟩
        unfold Instr.fill
        simp only
        rw [if_neg (by simp only [Bool.or_eq_true, decide_eq_true_eq, not_or]; refine ⟨by simp [hys, hlen], ?_⟩; rw [hys]; omega)]
        exact h6
      · cases h
    | _ => simp only [setAllD] at h; cases h

theorem lrep_sq {e : Nat} {n : Nat} {zs : List Value} {Γ : Gam} (hfz : fits X e (.d (zeroD X depth e)) = true) (hz : DRel Γ (zeroD X depth e) zs) :
    SqR Γ (.g (shT X depth e) (lrep n (zeroD X depth e))) (List.replicate n zs).flatten := by
  rw [lrep_eq]
  simp only [SqR]
  refine ⟨DsRel.rep hz n, fun x hx => ?_⟩
  rw [List.mem_replicate] at hx; rw [hx.2]; exact shq_eq _ _ hfz

theorem buildSlice_ok (hX : TbOK X P) (hi : Inv X P E V w) {t e n : Nat} {ps : Array (Nat × Operand)} {l : List D} {q : Sq D} {o : List Bool} (ht : X.td t = .sl e) (hk : kn X e = true)
    (hfz : fits X e (.d (zeroD X depth e)) = true) (hst : stOK X e (emptySq X e) = true) (hpos : 0 < n * (X.td e).size) (hsmall : n * (X.td e).size ≤ 16777216)
    (h : setAllD X e (ps.toList.map fun p => (p.1, ov fr p.2)) (lrep n (zeroD X depth e)) = some l) (hq : toSq A X e l = some (q, o)) (ho : Obl o) (ho' : Obl (oos A fr (ps.toList.map (·.2)))) (hf : FrOK X E fr a.tmps) :
    ∃ z w', (Instr.buildSlice t n (ps.map fun (i, x) => (i, a.eval x))).run P w = .ok z w' ∧
      (∃ E', RV0 X E' (.d (.slx q)) z ∧ Inv X P E' V w' ∧ Ext E w E' w') ∧
      (∃ E', RV0 X E' (.slt q (llen V) 0) z ∧ Inv X P E' (V ++ [.grow 0]) w' ∧ Ext E w E' w') ∧
      (∃ E', RV0 X E' (.msl (llen V) 0 0 (n : Int)) z ∧ Inv X P E' (V ++ [.arr e q 0]) w' ∧ Ext E w E' w') := by
  obtain ⟨u, hu, hd⟩ := (hX.known ht (by intro l h; cases h) (by intro h; cases h)).und
  simp only [DescOK] at hd; subst hd
  obtain ⟨i, z, hinf, hsz, hby, hz, zs, hdz, hv, hlen⟩ := info_kn hX hk
  have hd' : DRel E.Γ (zeroD X depth e) zs := DRel.mono (fun _ _ _ h => by cases h) _ _ hdz
  have hzc : z.cells.toList = zs := VOf_cells hv (DRel.one _ _ hd')
  have hzc' : z.cells = zs.toArray := by rw [← hzc]
  have hp := psR_ok (X := X) (E := E) (A := A) hf ps.toList ho'
  have hys : (ps.map fun (i, x) => (i, a.eval x)).toList = ps.toList.map fun (i, x) => (i, a.eval x) := by simp
  have hmade : (madeCells z.cells (n * i.size)).toList = (List.replicate n zs).flatten := by rw [hsz, hzc', ← hlen, made_list]
  obtain ⟨cs', h1, h2, h3⟩ := setAllD_ok A hX hfz _ _ _ _ (madeCells z.cells (n * i.size)) h hp (by rw [hmade]; exact lrep_sq hfz hd')
  rw [lrep_eq, List.length_replicate] at h3
  simp only [SqR] at h2
  obtain ⟨h4, h5, h6⟩ := toSq_ok hq ho h2.1 hst
  have hrun := run_buildSlice (P := P) w t e n (ps.map fun (i, x) => (i, a.eval x)) cs' i z hu hinf hz (by rw [hsz]; omega) (by rw [hsz]; omega) (by rw [hys, hsz]; rw [hsz] at h1; exact h1)
  have hcok : CellsOK (w.alloc (.cells cs' e)) w.heap.size (cs'.toList ++ []) := ⟨_, e, (0, 0), push_new w _, .inl rfl, by simp⟩
  have hcl := SqR.len _ _ h4
  rw [h5, h3, stOK_size hX h6] at hcl
  obtain ⟨g0, g1, g2⟩ := newSl_ok hX hi (cap := n) (Kept.push _ w (.cells cs' e)) hcok h6 h4 (by omega) (by rw [List.append_nil]; exact hcl)
  rw [h5, h3] at g0 g1 g2
  refine ⟨_, _, hrun, ?_, g1, g2⟩
  obtain ⟨E', he, s1, s2, s3, s4⟩ := g0
  exact ⟨E', rv_slx.2 ⟨_, s2, by rw [h5, h3]; exact s1, by rw [h5, h3]; rfl⟩, s3, s4⟩

/-! ### Texts and bytes -/
theorem bytesOf_ok (hX : TbOK X P) (hi : Inv X P E V w) {s t e : Nat} {l : List UInt8} (hs : X.td s = .str) (ht : X.td t = .sl e) (he : X.td e = .int .u8) :
    ∃ z w', (convert s t (.string ⟨l.toArray⟩)).run P w = .ok z w' ∧
      (∃ E', RV0 X E' (.d (.sl (.b l))) z ∧ Inv X P E' V w' ∧ Ext E w E' w') ∧
      (∃ E', RV0 X E' (.slt (.b l) (llen V) 0) z ∧ Inv X P E' (V ++ [.grow 0]) w' ∧ Ext E w E' w') ∧
      (∃ E', RV0 X E' (.msl (llen V) 0 0 (l.length : Int)) z ∧ Inv X P E' (V ++ [.arr e (.b l) 0]) w' ∧ Ext E w E' w') := by
  obtain ⟨u1, hu1, hd1⟩ := (hX.known hs (by intro l h; cases h) (by intro h; cases h)).und
  obtain ⟨u2, hu2, hd2⟩ := (hX.known ht (by intro l h; cases h) (by intro h; cases h)).und
  obtain ⟨u3, hu3, hd3⟩ := (hX.known he (by intro l h; cases h) (by intro h; cases h)).und
  simp only [DescOK] at hd1 hd2 hd3; subst hd1 hd2 hd3
  have hrun := run_bytes_of_string (P := P) w s t e ⟨l.toArray⟩ hu1 hu2 hu3
  have hsize : (⟨l.toArray⟩ : ByteArray).size = l.length := by simp [ByteArray.size]
  rw [hsize] at hrun
  have hcap : l.length ≤ grownCap w l.length 0 e := by simp [grownCap, Question.cut]
  have hbl : (bytesRow ⟨l.toArray⟩ (grownCap w l.length 0 e)).toList = (l.map fun b => Value.int .u8 (b.toNat : Int)) ++ List.replicate (grownCap w l.length 0 e - l.length) (.int .u8 0) := by
    simp [bytesRow, hsize]
  have hkp := grown_kept (fun _ _ => False) w (.cells (bytesRow ⟨l.toArray⟩ (grownCap w l.length 0 e)) e ((bytesRow ⟨l.toArray⟩ (grownCap w l.length 0 e)).size, (bytesRow ⟨l.toArray⟩ (grownCap w l.length 0 e)).size + 1))
  have hcok : CellsOK (w.drew.alloc (.cells (bytesRow ⟨l.toArray⟩ (grownCap w l.length 0 e)) e ((bytesRow ⟨l.toArray⟩ (grownCap w l.length 0 e)).size, (bytesRow ⟨l.toArray⟩ (grownCap w l.length 0 e)).size + 1))) w.heap.size ((l.map fun b => Value.int .u8 (b.toNat : Int)) ++ List.replicate (grownCap w l.length 0 e - l.length) (.int .u8 0)) :=
    ⟨_, e, _, grown_new w _, .inr (Nat.le_refl _), hbl⟩
  have hst : stOK X e (.b l) = true := by simp [stOK, he, isU8]
  obtain ⟨g0, g1, g2⟩ := newSl_ok hX hi (cap := grownCap w l.length 0 e) hkp hcok hst (by simp only [SqR]) hcap (by simp [he, TD.size]; omega)
  refine ⟨_, _, hrun, ?_, g1, g2⟩
  obtain ⟨E', he, s1, s2, s3, s4⟩ := g0
  exact ⟨E', rv_sl.2 ⟨_, s2, s1⟩, s3, s4⟩

theorem textOf_ok (hX : TbOK X P) (hi : Inv X P E V w) {s t e : Nat} {v : AV} {l : List UInt8} {y : Value} (hs : X.td s = .sl e) (ht : X.td t = .str) (he : X.td e = .int .u8)
    (h : seqOf A X V e v = some (.b l)) (hv : RV0 X E v y) (hn : ∀ s, v ≠ .d (.str s)) : (convert s t y).run P w = .ok (.string ⟨l.toArray⟩) w := by
  obtain ⟨u1, hu1, hd1⟩ := (hX.known hs (by intro l h; cases h) (by intro h; cases h)).und
  obtain ⟨u2, hu2, hd2⟩ := (hX.known ht (by intro l h; cases h) (by intro h; cases h)).und
  obtain ⟨u3, hu3, hd3⟩ := (hX.known he (by intro l h; cases h) (by intro h; cases h)).und
  simp only [DescOK] at hd1 hd2 hd3; subst hd1 hd2 hd3
  obtain ⟨ds, h1, h2⟩ := seqOf_ok hX hi h hv
  simp only [SqR] at h1; subst h1
  simp only [Sq.st, Sq.length] at h2
  have hlen := h2.len
  unfold Builtin.lenOf at hlen
  split at hlen
  · rename_i a n c
    rw [run_convert_bytes_string w s t e a n c hu1 hu3 hu2]
    exact bytesToString_ok h2 (by intro s hs; cases hs)
  · rename_i s'
    exfalso
    unfold seqOf at h
    split at h
    · obtain ⟨_, _, h3⟩ := rv_sl.1 hv; obtain ⟨_, _, h4, _⟩ := slAt_shape h3; cases h4
    · obtain ⟨_, _, h3, _⟩ := rv_slx.1 hv; obtain ⟨_, _, h4, _⟩ := slAt_shape h3; cases h4
    · rw [rv_nils] at hv; cases hv
    · exact hn _ rfl
    · obtain ⟨_, _, _, _, h3, _⟩ := rv_slt.1 hv; obtain ⟨_, _, h4, _⟩ := slAt_shape h3; cases h4
    · rename_i r g off len
      split at h
      · rename_i e1 q1 g' hV
        split at h
        · rename_i hg0
          simp only [beq_iff_eq] at hg0; subst hg0
          rw [rv_of_scalar rfl] at hv; simp only [R] at hv
          obtain ⟨b, e0, g0, n, cap, y', hy, hone, hg, hle, hgo⟩ := hv
          obtain ⟨b', cap', hb, hcap, hst, cs, ds, hc, hr, hlen, htake⟩ := hi.arr hV hg
          simp only [Gh.arr.injEq] at hb; obtain ⟨rfl, rfl, rfl, rfl, rfl⟩ := hb
          obtain ⟨h0, h1, h2, bo, rfl, hbo⟩ := hgo rfl
          cases hy
        · cases h
      · cases h
    · rw [rv_of_scalar rfl] at hv; simp only [R] at hv
      obtain ⟨b, t0, o, u', sz, n, e', bo, hy, _⟩ := hv
      cases hy
    · cases h
  · simp [stuck] at hlen

end
end Go.Sk
