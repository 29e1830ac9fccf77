/- Sk, part T: slices made and written out; texts and bytes. -/
import Derived.Test.YtlheciphihmomaaGreatDoorSkS
import Derived.Laws.MakeOwn
set_option linter.all false
namespace Go.Sk
open Go

section
variable {X : Tb} {P : Program} {E : Env} {V : List AO} {w w' : World} {A : Ari} {fr : List AV} {a : Act}

theorem made_list {zs : List Value} : ∀ n, (madeCells zs.toArray (n * zs.length)).toList = (List.replicate n zs).flatten
  | 0 => by simp [madeCells]
  | n + 1 => by
    have ih := made_list (zs := zs) n
    simp only [madeCells, Array.toList_map, Array.toList_range] at ih ⊢
    rw [Nat.add_mul, Nat.one_mul, List.range_add, List.map_append, ih, List.replicate_succ', List.flatten_append]
    congr 1
    simp only [List.flatten_cons, List.flatten_nil, List.append_nil, List.map_map]
    apply List.ext_getElem?
    intro i
    by_cases hi : i < zs.length
    · simp [hi, Nat.mul_add_mod_self_right, Nat.mod_eq_of_lt hi, Nat.add_comm]
    · simp [hi]

theorem DsRel.rep {Γ : Gam} {z : D} {zs : List Value} (h : DRel Γ z zs) : ∀ n, DsRel Γ (List.replicate n z) (List.replicate n zs).flatten
  | 0 => by simp [DsRel]
  | n + 1 => by
    simp only [List.replicate_succ, List.flatten_cons, DsRel]
    exact ⟨_, _, rfl, h, DsRel.rep h n⟩

theorem flat_one {α : Type} (v : α) : ∀ n, (List.replicate n [v]).flatten = List.replicate n v
  | 0 => rfl
  | n + 1 => by simp [List.replicate_succ, flat_one v n]

theorem zeroD_td {t : Nat} : zeroD X depth t = (match X.td t with
    | .bool => .bool false
    | .int k => .int k 0
    | .str => .str []
    | .ptr _ => .nilp
    | .sl _ => .nils
    | .map _ _ => .nilm
    | .strct _ fs => .agg (zeroDs X 59 fs)
    | .arr _ m e => .arr m (repSqL X e m (zeroD X 59 e))
    | .ifc _ => .nili
    | .fn => .nilf
    | _ => .junk) := rfl

theorem st_empty {e : Nat} (h : stOK X e (emptySq X e) = true) {sh : Sh} (hs : emptySq X e = .g sh []) : sh = shT X depth e := by
  unfold emptySq at hs; split at hs <;> cases hs; rfl

/-- Zero values in a row. -/
theorem repSq_ok {Γ : Gam} {e : Nat} {n : Int} {zs : List Value} (hst : stOK X e (emptySq X e) = true) (hf : fits X e (.d (zeroD X depth e)) = true) (hz : DRel Γ (zeroD X depth e) zs) :
    SqR Γ (repSq A X e n (zeroD X depth e)) (List.replicate n.toNat zs).flatten ∧ (repSq A X e n (zeroD X depth e)).length = n.toNat ∧ stOK X e (repSq A X e n (zeroD X depth e)) = true := by
  have hz0 := zeroD_td (X := X) (t := e)
  unfold repSq
  split <;> rename_i htd
  · rw [htd] at hz0; simp only at hz0; rw [hz0] at hz; simp only [DRel] at hz; subst hz
    refine ⟨?_, by simp [Sq.length, A.rep_eq], ?_⟩
    · simp only [SqR, A.rep_eq, flat_one, List.map_replicate]; first | done | rfl
    · simp [stOK, htd, isU8]
  · rename_i k hk
    rw [htd] at hz0; simp only at hz0; rw [hz0] at hz; simp only [DRel] at hz; subst hz
    refine ⟨?_, by simp [Sq.length, A.rep_eq], ?_⟩
    · simp only [SqR, A.rep_eq, flat_one, List.map_replicate]
    · simp only [stOK, htd]
      unfold emptySq at hst; rw [htd] at hst
      split at hst
      · rename_i h1; cases h1; exact absurd rfl hk
      · rename_i k' _ h1; cases h1; simpa [stOK, htd] using hst
      · rename_i h1; cases h1
      · rename_i h1 _; exact absurd rfl (h1 _)
  · rw [htd] at hz0; simp only at hz0; rw [hz0] at hz; simp only [DRel] at hz; subst hz
    refine ⟨?_, by simp [Sq.length, A.rep_eq], ?_⟩
    · simp only [SqR, A.rep_eq, flat_one, List.map_replicate]
    · simp [stOK, htd]
  · refine ⟨?_, by simp [Sq.length, A.rep_eq], ?_⟩
    · simp only [SqR, A.rep_eq]
      refine ⟨DsRel.rep hz _, fun x hx => ?_⟩
      rw [List.mem_replicate] at hx; rw [hx.2]; exact shq_eq _ _ hf
    · have : emptySq X e = .g (shT X depth e) [] := by
        unfold emptySq; split <;> first | rfl | simp_all
      rw [this] at hst; exact hst

/-- A row of a literal, or a new one, as the stepper will have it. -/
theorem newSl_ok (hX : TbOK X P) (hi : Inv X P E V w) {e cap : Nat} {q : Sq D} {cs rest : List Value} (hk : Kept (fun _ _ => False) w w') (hc : CellsOK w' w.heap.size (cs ++ rest))
    (hst : stOK X e q = true) (hq : SqR E.Γ q cs) (hle : q.length ≤ cap) (hl : (cs ++ rest).length = cap * (X.td e).size) :
    (∃ E', E' = ⟨E.Γ.add w.heap.size 0 cs, E.ρ⟩ ∧ SlAt E'.Γ (.slice (some ⟨w.heap.size, 0, none⟩) q.length cap) q.length cs ∧ SqR E'.Γ q cs ∧ Inv X P E' V w' ∧ Ext E w E' w') ∧
    (∃ E', RV0 X E' (.slt q (llen V) 0) (.slice (some ⟨w.heap.size, 0, none⟩) q.length cap) ∧ Inv X P E' (V ++ [.grow 0]) w' ∧ Ext E w E' w') ∧
    (∃ E', RV0 X E' (.msl (llen V) 0 0 (q.length : Int)) (.slice (some ⟨w.heap.size, 0, none⟩) q.length cap) ∧ Inv X P E' (V ++ [.arr e q 0]) w' ∧ Ext E w E' w') := by
  have hsz := stOK_size hX hst
  have hlen := SqR.len _ _ hq
  rw [hsz] at hlen
  have hold : ∀ x o v, E.Γ x o = some v → E.Γ.add w.heap.size 0 cs x o = some v := Gam.add_old fun o _ _ => hi.noneAt (Nat.le_refl _)
  refine ⟨?_, ?_, ?_⟩
  · obtain ⟨h1, h2⟩ := hi.row0 hk hc
    exact ⟨_, rfl, .inl ⟨_, _, _, rfl, hle, Gam.add_new⟩, SqR.mono hold _ _ hq, h1, h2⟩
  · obtain ⟨h1, h2⟩ := hi.row1 hk hc
    refine ⟨_, ?_, h1, h2⟩
    refine rv_slt.2 ⟨cs, _, 0, SqR.mono hold _ _ hq, .inl ⟨_, _, _, rfl, hle, Gam.add_new⟩, by rw [llen_eq, ← hi.len]; exact rho_new _ _, Nat.le_refl _, .inr ⟨w.heap.size, 0, cap, _, _, rfl, if_pos rfl, ?_, ?_⟩⟩
    · rw [hsz, hlen]; simp
    · rw [hsz, ← hl, List.length_append]; simp
  · obtain ⟨h1, h2⟩ := hi.row2 hk hc hst hq hlen hle hl
    refine ⟨_, ?_, h1, h2⟩
    rw [rv_of_scalar rfl]; simp only [R]
    exact ⟨w.heap.size, e, 0, q.length, cap, _, rfl, rfl, by rw [llen_eq, ← hi.len]; exact rho_new _ _, Nat.le_refl _, fun _ => ⟨by omega, by omega, by omega, _, by simp; rfl, by simp⟩⟩

theorem makeSlice_ok (hX : TbOK X P) (hi : Inv X P E V w) {t e : Nat} {kl kc : IntKind} {n m : Int} (ht : X.td t = .sl e) (hk : kn X e = true) (hb : 0 < X.bytes e)
    (hf : fits X e (.d (zeroD X depth e)) = true) (hst : stOK X e (emptySq X e) = true) (h0 : 0 ≤ n) (hnm : n ≤ m) (hroom : m * (X.bytes e : Int) ≤ 2 ^ 47) :
    ∃ z w', (Instr.makeSlice t (.int kl n) (.int kc m)).run P w = .ok z w' ∧
      (n = m → ∃ E', RV0 X E' (.d (.slx (repSq A X e n (zeroD X depth e)))) z ∧ Inv X P E' V w' ∧ Ext E w E' w') ∧
      (∃ E', RV0 X E' (.msl (llen V) 0 0 n) z ∧ Inv X P E' (V ++ [.arr e (repSq A X e n (zeroD X depth e)) 0]) w' ∧ Ext E w E' w') := by
  obtain ⟨u, hu, hd⟩ := (hX.known ht (by intro l h; cases h) (by intro h; cases h)).und
  simp only [DescOK] at hd; subst hd
  obtain ⟨i, z, hinf, hsz, hby, hz, zs, hdz, hv, hlen⟩ := info_kn hX hk
  have hd' : DRel E.Γ (zeroD X depth e) zs := DRel.mono (fun _ _ _ h => by cases h) _ _ hdz
  have hzc : z.cells.toList = zs := VOf_cells hv (DRel.one _ _ hd')
  have hzc' : z.cells = zs.toArray := by rw [← hzc]
  obtain ⟨h1, h2, h3⟩ := repSq_ok (A := A) (n := n) hst hf hd'
  have hroom1 : m ≤ 2 ^ 47 := by
    have : m * 1 ≤ m * (X.bytes e : Int) := Int.mul_le_mul_of_nonneg_left (by omega) (by omega)
    omega
  have hrun := run_make w t e i z hu hinf hz kl kc n m h0 hnm (by rw [hby, Int.mul_comm]; omega) (by omega)
  have hml : (madeCells z.cells (m.toNat * i.size)).toList = (List.replicate n.toNat zs).flatten ++ (List.replicate (m.toNat - n.toNat) zs).flatten := by
    rw [hsz, hzc', ← hlen, made_list, ← List.flatten_append, List.replicate_append_replicate]
    congr 2; omega
  have hcok : CellsOK (w.alloc (.cells (madeCells z.cells (m.toNat * i.size)) e)) w.heap.size ((List.replicate n.toNat zs).flatten ++ (List.replicate (m.toNat - n.toNat) zs).flatten) :=
    ⟨_, e, (0, 0), push_new w _, .inl rfl, hml⟩
  have hll := congrArg List.length hml
  rw [Array.length_toList, size_madeCells] at hll
  have hkp : Kept (fun _ _ => False) w (w.alloc (.cells (madeCells z.cells (m.toNat * i.size)) e)) := Kept.push _ w _
  obtain ⟨g0, g1, g2⟩ := newSl_ok hX hi (cap := m.toNat) hkp hcok h3 h1 (by rw [h2]; omega) (by rw [← hll, hsz])
  rw [h2] at g0 g2
  refine ⟨_, _, hrun, fun hnm => ?_, ?_⟩
  · obtain ⟨E', he, s1, s2, s3, s4⟩ := g0
    exact ⟨E', rv_slx.2 ⟨_, s2, by rw [h2]; exact s1, by rw [h2, hnm]; rfl⟩, s3, s4⟩
  · rw [Int.toNat_of_nonneg h0] at g2; exact g2

end
end Go.Sk
