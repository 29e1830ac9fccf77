/- Sk, part VA: copying into arrays. -/
import Derived.Test.YtlheciphihmomaaGreatDoorSkV
set_option linter.all false
namespace Go.Sk
open Go

section
variable {X : Tb} {P : Program} {E : Env} {V : List AO} {w w' : World} {A : Ari}

theorem take_splice {α : Type} (cs vs : List α) (o L : Nat) (h : o + vs.length ≤ L) (hL : L ≤ cs.length) :
    (cs.take o ++ vs ++ cs.drop (o + vs.length)).take L = (cs.take L).take o ++ vs ++ (cs.take L).drop (o + vs.length) := by
  rw [List.take_take, Nat.min_eq_left (by omega), List.take_append, List.length_append, List.length_take, Nat.min_eq_left (by omega),
    List.take_of_length_le (i := L) (l := List.take o cs ++ vs) (by rw [List.length_append, List.length_take]; omega), List.drop_take]

theorem overSq_ok {Γ : Gam} {q m b : Sq D} {off : Nat} {n : Nat} {ds dm : List Value} (h : overSq A q m (off : Int) (n : Int) = some b) (hq : SqR Γ q ds) (hm : SqR Γ m dm) (hn : n ≤ m.length) (ho : off + n ≤ q.length) :
    SqR Γ b (ds.take (off * q.st) ++ dm.take (n * m.st) ++ ds.drop ((off + n) * q.st)) ∧ b.length = q.length ∧ b.kd = q.kd ∧ m.kd = q.kd := by
  unfold overSq at h
  split at h
  · rename_i a ha
    rw [A.plus_eq, Sq.len_eq] at h
    obtain ⟨g1, g2, g3⟩ := Sq.cut_ok (A := A) (lo := 0) (hi := (off : Int)) hq (by omega) (by omega) (by omega)
    obtain ⟨g4, g5, g6⟩ := Sq.cut_ok (A := A) (lo := 0) (hi := (n : Int)) hm (by omega) (by omega) (by omega)
    obtain ⟨g7, g8, g9, g10⟩ := Sq.app_ok ha g1 g4
    obtain ⟨k1, k2, k3⟩ := Sq.cut_ok (A := A) (lo := (off : Int) + (n : Int)) (hi := (q.length : Int)) hq (by omega) (by omega) (by omega)
    obtain ⟨k4, k5, k6, k7⟩ := Sq.app_ok h g7 k1
    have hl := SqR.len _ _ hq
    refine ⟨?_, ?_, ?_, ?_⟩
    · have e1 : ((off : Int) + (n : Int)).toNat = off + n := by omega
      simp only [e1, Int.toNat_natCast, Int.toNat_zero, Nat.zero_mul, List.drop_zero] at k4
      rw [← hl, List.take_length] at k4
      exact k4
    · rw [k5, g8, g2, g5, k2]; omega
    · rw [k6, g9, g3]
    · rw [← g6, g10, g3]
  · cases h

theorem copy_run (hX : TbOK X P) {t e ty : Nat} (ht : X.td t = .sl e) (hk : kn X e = true) {ats : Array Nat} (hat : ats[0]? = some t) {bo : Addr} {dl c m n : Nat} {y : Value} {ds : List Value} (hr : Reads P w y (X.td e).size m ds) (hn : n = min m dl)
    (hst : (storeCells bo (ds.take (n * (X.td e).size)) 0).run P w = .ok () w') : (Builtin.copy_ ats ty #[.slice (some bo) dl c, y]).run P w = .ok (goInt n) w' := by
  obtain ⟨u1, hu1, rfl⟩ := (hX.known ht (by simp) (by simp)).und
  obtain ⟨k1, k2⟩ := kn_td hk
  have hs := fun w : World => run_sizeOf (w := w) hX rfl k1 k2
  have hf := hr.first n (by omega)
  have hmin : Nat.min m dl = n := hn.symm
  simp [Builtin.copy_, hat, run_und_raw hu1, hs, hr.len, hmin, hf, hst]

theorem mn_nat (A : Ari) (m l : Nat) : A.mn (m : Int) (l : Int) = ((min m l : Nat) : Int) := by
  rw [A.mn_eq]
  split <;> omega

theorem copyAV_ok (hX : TbOK X P) (hi : Inv X P E V w) {t e ty : Nat} (ht : X.td t = .sl e) (hk : kn X e = true) {ats : Array Nat} (hat : ats[0]? = some t) {m : Sq D} {vx vy x : AV} {yx yy : Value} {V' : List AO} {ob : List Bool}
    (hm : seqOf A X V e vy = some m) (hy : RV0 X E vy yy) (h : copyAV A X V e vx m = some (x, V', ob)) (ho : Obl ob) (hx : RV0 X E vx yx) :
    ∃ z w', (Builtin.copy_ ats ty #[yx, yy]).run P w = .ok z w' ∧ RV0 X E x z ∧ Inv X P E V' w' ∧ Ext E w E w' := by
  obtain ⟨dm, hmr, hreads⟩ := seqOf_ok hX hi hm hy
  unfold copyAV at h
  split at h
  · rename_i r g off len
    split at h
    · rename_i e' q g' hV
      split at h
      · rename_i hc0
        simp only [Bool.and_eq_true, beq_iff_eq] at hc0
        obtain ⟨⟨rfl, hsame⟩, hstm⟩ := hc0
        split at h
        · rename_i b hb
          simp only [Option.some.injEq, Prod.mk.injEq] at h; obtain ⟨rfl, rfl, rfl⟩ := h
          rw [rv_of_scalar rfl] at hx; simp only [R] at hx
          obtain ⟨bb, e0, g0, n, cap, y', hy', _, hg, hle, hgo⟩ := hx
          simp only [List.cons.injEq, and_true] at hy'; subst hy'
          obtain ⟨b', cap', hb', hcap, hst, cs, ds, hc, hr, hlen, htake⟩ := hi.arr hV hg
          simp only [Gh.arr.injEq] at hb'; obtain ⟨rfl, rfl, rfl, rfl, rfl⟩ := hb'
          obtain ⟨h0, h1, h2, bo, rfl, hbo⟩ := hgo rfl
          have htd := sameT_td hX hsame
          have hsz := stOK_size hX hst
          have hszm := stOK_size hX hstm
          rw [← htd] at hszm
          obtain ⟨on, rfl⟩ := Int.eq_ofNat_of_zero_le h0
          obtain ⟨ln, rfl⟩ := Int.eq_ofNat_of_zero_le h1
          simp only [Int.toNat_natCast] at hbo ⊢
          rw [Sq.len_eq, mn_nat] at hb ⊢
          generalize hN : min m.length ln = N at hb ⊢
          obtain ⟨k1, k2, k3, k4⟩ := overSq_ok hb hr hmr (by omega) (by omega)
          have hml := SqR.len _ _ hmr
          have hvl : (dm.take (N * (X.td e0).size)).length = N * (X.td e0).size := by
            rw [List.length_take, hml, hszm]; exact Nat.min_eq_left (Nat.mul_le_mul_right _ (by omega))
          have hql : (on + N) * (X.td e0).size ≤ q.length * (X.td e0).size := Nat.mul_le_mul_right _ (by omega)
          have hcl : q.length * (X.td e0).size ≤ cs.length := by rw [hlen]; exact Nat.mul_le_mul_right _ hcap
          rw [Nat.add_mul] at hql
          obtain ⟨w', f1, f2, f3⟩ := run_storeCells (P := P) (b := bb) (o := on * (X.td e0).size) (dm.take (N * (X.td e0).size)) 0 w cs (fun v hv => SqR.one m dm hmr v (List.mem_of_mem_take hv)) hc (by rw [hvl]; omega)
          have hst1 : ∃ w', (storeCells bo (dm.take (N * (X.td e0).size)) 0).run P w = .ok () w' ∧ Kept (fun x y => x = bb) w w' ∧ CellsOK w' bb (cs.take (on * (X.td e0).size) ++ dm.take (N * (X.td e0).size) ++ cs.drop (on * (X.td e0).size + N * (X.td e0).size)) := by
            by_cases hz : N = 0
            · subst hz
              refine ⟨w, by simp [storeCells], .refl _ w, ?_⟩
              simpa using hc
            · have := hbo (by omega)
              subst this
              rw [Nat.add_zero, hvl] at f3
              exact ⟨w', f1, f2.mono fun x y _ h => h.1, f3⟩
          obtain ⟨w2, s1, s2, s3⟩ := hst1
          rw [hszm] at hreads
          have hreads' : Reads P w yy (X.td e).size m.length dm := by rw [← htd]; exact hreads
          have hrun := copy_run (ty := ty) (c := cap - on) hX ht hk hat (dl := ln) (n := N) hreads' hN.symm (by rw [← htd]; exact s1)
          obtain ⟨h17, h18⟩ := hi.putIn (o' := .arr e0 b _) hg (w' := w2) (s2.mono fun x y _ hxy => hxy) (by
            refine ⟨rfl, rfl, k2, hcap, Sq.kd_ok k3.symm hst, _, _, s3, k1, ?_, ?_⟩
            · simp only [List.length_append, List.length_take, List.length_drop]; rw [List.length_take] at hvl; omega
            · have e1 := take_splice cs (dm.take (N * (X.td e0).size)) (on * (X.td e0).size) (q.length * (X.td e0).size) (by rw [hvl]; omega) hcl
              rw [hvl] at e1
              rw [e1, htake, hsz, hszm, Nat.add_mul])
          exact ⟨_, w2, hrun, rv_int.2 rfl, by rw [lset_eq]; exact h17, h18⟩
        · cases h
      · cases h
    · cases h
  · rename_i r p lo hh
    split at h
    · rename_i u v hV
      split at h
      · rename_i k q hget
        split at h
        · rename_i hc0
          simp only [Bool.and_eq_true] at hc0
          obtain ⟨harr, hstm⟩ := hc0
          split at h
          · rename_i b hb
            split at h
            · rename_i v' o' hset
              simp only [Option.some.injEq, Prod.mk.injEq] at h; obtain ⟨rfl, rfl, rfl⟩ := h
              rw [rv_of_scalar rfl] at hx; simp only [R] at hx
              obtain ⟨bb, t0, o, u', sz, n, e', bo, hy', hg, htat, htdu, hof, h0, h1, h2, hbo⟩ := hx
              simp only [List.cons.injEq, and_true] at hy'; subst hy'
              obtain ⟨b', hb', hf, cs, hc, hr⟩ := hi.blk hV hg
              simp only [Gh.blk.injEq] at hb'; obtain ⟨rfl, rfl⟩ := hb'
              unfold arrE at harr
              rw [htat] at harr
              simp only [htdu, Bool.and_eq_true] at harr
              obtain ⟨hsame, hsc⟩ := harr
              have htd := sameT_td hX hsame
              have hsz1 : (X.td e').size = 1 := by
                revert hsc; cases X.td e' <;> simp [scK, TD.size]
              obtain ⟨g1, g2, g3⟩ := getP_ok hX A p v _ u' o cs hr hf hof htat
              rw [hget] at g1 g3
              simp only [R, DRel] at g1
              obtain ⟨g4, g5⟩ := g1
              obtain ⟨sz', e'', htdu', hqst, hqg⟩ := g3.darr
              rw [htdu] at htdu'; cases htdu'
              rw [hsz1] at hqst
              have hszm := stOK_size hX hstm
              have hszm1 : m.st = 1 := by rw [hszm, ← htd, hsz1]
              obtain ⟨on, rfl⟩ := Int.eq_ofNat_of_zero_le h0
              obtain ⟨ln, hln⟩ := Int.eq_ofNat_of_zero_le (show 0 ≤ hh - (on : Int) by omega)
              have hml := SqR.len _ _ hmr
              have hgl := SqR.len _ _ g4
              rw [hqst, Nat.mul_one] at hgl
              rw [hszm1, Nat.mul_one] at hml
              rw [A.minus_eq, hln, Sq.len_eq, mn_nat] at hb ⊢
              generalize hN : min m.length ln = N at hb ⊢
              obtain ⟨k1, k2, k3, k4⟩ := overSq_ok hb g4 hmr (by omega) (by omega)
              rw [hqst, hszm1, Nat.mul_one, Nat.mul_one, Nat.mul_one] at k1
              have hvl : (dm.take N).length = N := by rw [List.length_take, hml]; omega
              obtain ⟨h4, h5, h6⟩ := setP_ok hX A p v (.d (.arr k b)) v' _ _ u' o cs _ hset ho hr (by simp only [R, DRel]; exact ⟨k1, by rw [k2, g5]⟩) hf hof htat (by
                rw [hget]; simp only [shA, shD, Sq.kd_st k3, Sq.kd_isG k3])
              have hsu : (X.td u').size = k := by
                have := R.len _ _ (show R X E (.d (.arr k q)) _ from (by simp only [R, DRel]; exact ⟨g4, g5⟩))
                have h7 := (g3.szA hX _ _).1
                simp only [AV.sz, D.sz, hqst, Nat.mul_one] at h7; exact h7.symm
              rw [hsu] at g2 k1 h4 h6 hgl
              have hlk : ((cs.drop o).take k).length = k := by rw [List.length_take, List.length_drop]; omega
              have hst1 : ∃ w', (storeCells bo (dm.take N) 0).run P w = .ok () w' ∧ Kept (fun x y => x = bb) w w' ∧ CellsOK w' bb (cs.take (o + on) ++ dm.take N ++ cs.drop (o + on + N)) := by
                by_cases hz : N = 0
                · subst hz
                  exact ⟨w, by simp [storeCells], .refl _ w, by simpa using hc⟩
                · have := hbo (by omega)
                  simp only [Int.toNat_natCast, hsz1, Nat.mul_one] at this
                  subst this
                  obtain ⟨w', f1, f2, f3⟩ := run_storeCells (P := P) (b := bb) (o := o + on) (dm.take N) 0 w cs (fun v hv => SqR.one m dm hmr v (List.mem_of_mem_take hv)) hc (by rw [hvl]; omega)
                  rw [Nat.add_zero, hvl] at f3
                  exact ⟨w', f1, f2.mono fun x y _ h => h.1, f3⟩
              obtain ⟨w2, s1, s2, s3⟩ := hst1
              have hreads' : Reads P w yy (X.td e).size m.length dm := by rw [← hszm]; exact hreads
              have hdl : (hh - (on : Int)).toNat = ln := by omega
              have hrun := copy_run (ty := ty) (c := k - on) (bo := bo) hX ht hk hat (dl := ln) (n := N) hreads' hN.symm (by rw [← htd, hsz1, Nat.mul_one]; exact s1)
              simp only [Int.toNat_natCast, hdl]
              have hcells : cs.take o ++ ((cs.drop o).take k |>.take on) ++ dm.take N ++ (((cs.drop o).take k).drop (on + N)) ++ cs.drop (o + k) = cs.take (o + on) ++ dm.take N ++ cs.drop (o + on + N) := by
                have e1 := splice cs (dm.take N) o k on (by omega) (by rw [hvl]; omega)
                rw [hvl] at e1
                rw [← e1]; simp [List.append_assoc]
              have hxl : (((cs.drop o).take k).take on ++ dm.take N ++ ((cs.drop o).take k).drop (on + N)).length = k := by
                simp only [List.length_append, List.length_take, List.length_drop, hvl] at hlk hvl ⊢; omega
              rw [hxl] at h4
              have h4' : R X E v' (cs.take (o + on) ++ dm.take N ++ cs.drop (o + on + N)) := by
                rw [← hcells]
                have e2 : cs.take o ++ (((cs.drop o).take k).take on ++ dm.take N ++ ((cs.drop o).take k).drop (on + N)) ++ cs.drop (o + k) = cs.take o ++ ((cs.drop o).take k |>.take on) ++ dm.take N ++ (((cs.drop o).take k).drop (on + N)) ++ cs.drop (o + k) := by simp [List.append_assoc]
                rw [← e2]; exact h4
              obtain ⟨h10, h11⟩ := hi.putIn (o' := .blk _ v') hg (own_of (fun x y hxy => hxy) s2) ⟨rfl, hf.of_sh h5, _, s3, h4'⟩
              exact ⟨_, w2, hrun, rv_int.2 rfl, by rw [lset_eq]; exact h10, h11⟩
            · cases h
          · cases h
        · cases h
      · cases h
    · cases h
  · cases h

end
end Go.Sk
