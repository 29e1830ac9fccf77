/- Sk, part E: the table of types; operands. -/
import Derived.Test.YtlheciphihmomaaGreatDoorSkD
import Derived.Laws.Sem
import Derived.Laws.Cells
import Derived.Laws.Slices
import Derived.Laws.Append
set_option linter.all false
namespace Go.Sk
open Go

def DescOK (X : Tb) : TD → TypeDesc → Prop
  | .bool, u => u = .bool
  | .int k, u => u = .int k
  | .str, u => u = .string
  | .ptr e, u => u = .pointer e
  | .sl e, u => u = .slice e
  | .map k e, u => u = .map k e
  | .strct sz fs, u => ∃ f : Array Field, u = .struct f ∧ f.toList.map (·.type) = fs ∧ (∀ (i : Nat) (x : Field), f[i]? = some x → x.offset = sumSz X fs i) ∧ sz = sumSz X fs fs.length
  | .arr sz n e, u => u = .array n e ∧ sz = n * (X.td e).size
  | .ifc em, u => ∃ ms, u = .interface ms ∧ em = ms.isEmpty
  | .fn, u => ∃ a b c, u = .func a b c
  | .tup l, u => u = .tuple l.toArray
  | .other, _ => True

structure TyOK (X : Tb) (P : Program) (t : Nat) (d : TD) : Prop where
  info : ∃ i, P.info? t = some i ∧ i.size = d.size ∧ i.bytes = X.bytes t ∧ ∀ z, i.zero = some z → ∃ cs, DRel (fun _ _ => none) (zeroD X depth t) cs ∧ VOf d.isAgg cs z ∧ cs.length = d.size
  zero : ∃ i, P.info? t = some i ∧ i.zero.isSome = true
  und : ∃ u, P.underlying t = some u ∧ DescOK X d u

/-- The stepper's table of types is the program's. -/
structure TbOK (X : Tb) (P : Program) : Prop where
  ty : ∀ t d, X.td t = d → (∃ l, d = .tup l) ∨ d = .other ∨ TyOK X P t d
  un : ∀ t, X.td (X.un t) = X.td t
  err : X.rtErr = P.rt.errorString

theorem sameT_td {X : Tb} {P : Program} (h : TbOK X P) {a b : Nat} (hs : sameT X a b = true) : X.td a = X.td b := by
  simp only [sameT, Bool.or_eq_true, beq_iff_eq] at hs
  rcases hs with h1 | h1
  · rw [h1]
  · rw [← h.un a, ← h.un b, h1]

section
variable {X : Tb} {P : Program} (hX : TbOK X P)
include hX

theorem TbOK.known {t : Nat} {d : TD} (h : X.td t = d) (h1 : ∀ l, d ≠ .tup l) (h2 : d ≠ .other) : TyOK X P t d := by
  rcases hX.ty t d h with ⟨l, h3⟩ | h3 | h3
  · exact absurd h3 (h1 l)
  · exact absurd h3 h2
  · exact h3

theorem run_und {t : Nat} {u : TypeDesc} {w : World} (h : P.underlying t = some u) : (underlying t).run P w = .ok u w := by
  simp [underlying, h]

theorem run_sizeOf {t : Nat} {d : TD} {w : World} (h : X.td t = d) (h1 : ∀ l, d ≠ .tup l) (h2 : d ≠ .other) : (sizeOf t).run P w = .ok d.size w := by
  obtain ⟨i, hi, hs, _⟩ := (hX.known h h1 h2).info
  simp [sizeOf, typeInfo, hi, hs]

theorem run_isAgg {t : Nat} {d : TD} {w : World} (h : X.td t = d) (h1 : ∀ l, d ≠ .tup l) (h2 : d ≠ .other) : (isAgg t).run P w = .ok d.isAgg w := by
  obtain ⟨u, hu, hd⟩ := (hX.known h h1 h2).und
  cases d <;> simp only [DescOK] at hd
  case strct => obtain ⟨f, rfl, _⟩ := hd; simp [isAgg, underlying, hu, TD.isAgg]
  case arr => obtain ⟨rfl, _⟩ := hd; simp [isAgg, underlying, hu, TD.isAgg]
  case ifc => obtain ⟨f, rfl, _⟩ := hd; simp [isAgg, underlying, hu, TD.isAgg]
  case fn => obtain ⟨a, b, c, rfl⟩ := hd; simp [isAgg, underlying, hu, TD.isAgg]
  case tup l => exact absurd rfl (h1 l)
  case other => exact absurd rfl h2
  all_goals subst hd; simp [isAgg, underlying, hu, TD.isAgg]

theorem run_zero {t : Nat} {d : TD} {w : World} (h : X.td t = d) (h1 : ∀ l, d ≠ .tup l) (h2 : d ≠ .other) :
    ∃ z cs, (zeroValue t).run P w = .ok z w ∧ DRel (fun _ _ => none) (zeroD X depth t) cs ∧ VOf d.isAgg cs z ∧ cs.length = d.size := by
  obtain ⟨i, hi, hz⟩ := (hX.known h h1 h2).zero
  obtain ⟨i', hi', _, _, hzz⟩ := (hX.known h h1 h2).info
  rw [hi] at hi'; cases hi'
  cases hq : i.zero with
  | none => simp [hq] at hz
  | some z =>
    obtain ⟨cs, hd, hv⟩ := hzz z hq
    exact ⟨z, cs, by simp [zeroValue, typeInfo, hi, hq], hd, hv⟩
end

/-! ### What a value must be -/
section
variable {X : Tb} {E : Env} {y : Value}
theorem rv_int {k : IntKind} {n : Int} : RV0 X E (.d (.int k n)) y ↔ y = .int k n := by
  constructor
  · rintro ⟨cs, h1, h2⟩; simp only [R, DRel] at h1; subst h1; simp only [AV.isAgg, D.isAgg, VOf, List.cons.injEq] at h2; exact h2.1.symm
  · rintro rfl; exact ⟨_, by simp only [R, DRel], rfl⟩
theorem rv_bool {b : Bool} : RV0 X E (.d (.bool b)) y ↔ y = .bool b := by
  constructor
  · rintro ⟨cs, h1, h2⟩; simp only [R, DRel] at h1; subst h1; simp only [AV.isAgg, D.isAgg, VOf, List.cons.injEq] at h2; exact h2.1.symm
  · rintro rfl; exact ⟨_, by simp only [R, DRel], rfl⟩
theorem rv_str {s : List UInt8} : RV0 X E (.d (.str s)) y ↔ y = .string ⟨s.toArray⟩ := by
  constructor
  · rintro ⟨cs, h1, h2⟩; simp only [R, DRel] at h1; subst h1; simp only [AV.isAgg, D.isAgg, VOf, List.cons.injEq] at h2; exact h2.1.symm
  · rintro rfl; exact ⟨_, by simp only [R, DRel], rfl⟩
theorem rv_nilp : RV0 X E (.d .nilp) y ↔ y = .pointer none := by
  constructor
  · rintro ⟨cs, h1, h2⟩; simp only [R, DRel] at h1; subst h1; simp only [AV.isAgg, D.isAgg, VOf, List.cons.injEq] at h2; exact h2.1.symm
  · rintro rfl; exact ⟨_, by simp only [R, DRel], rfl⟩
theorem rv_nilm : RV0 X E (.d .nilm) y ↔ y = .map none := by
  constructor
  · rintro ⟨cs, h1, h2⟩; simp only [R, DRel] at h1; subst h1; simp only [AV.isAgg, D.isAgg, VOf, List.cons.injEq] at h2; exact h2.1.symm
  · rintro rfl; exact ⟨_, by simp only [R, DRel], rfl⟩
theorem rv_nilf : RV0 X E (.d .nilf) y ↔ y = .nilFunc := by
  constructor
  · rintro ⟨cs, h1, h2⟩; simp only [R, DRel] at h1; subst h1; simp only [AV.isAgg, D.isAgg, VOf, List.cons.injEq] at h2; exact h2.1.symm
  · rintro rfl; exact ⟨_, by simp only [R, DRel], rfl⟩
theorem rv_nili : RV0 X E (.d .nili) y ↔ y = .nilIface := by
  constructor
  · rintro ⟨cs, h1, h2⟩; simp only [R, DRel] at h1; subst h1; simp only [AV.isAgg, D.isAgg, VOf, List.cons.injEq] at h2; exact h2.1.symm
  · rintro rfl; exact ⟨_, by simp only [R, DRel], rfl⟩
theorem rv_nils : RV0 X E (.d .nils) y ↔ y = .slice none 0 0 := by
  constructor
  · rintro ⟨cs, h1, h2⟩; simp only [R, DRel] at h1; subst h1; simp only [AV.isAgg, D.isAgg, VOf, List.cons.injEq] at h2; exact h2.1.symm
  · rintro rfl; exact ⟨_, by simp only [R, DRel], rfl⟩
theorem rv_undef : RV0 X E .undef y := ⟨[y], by simp only [R]; exact ⟨y, rfl⟩, rfl⟩

theorem rv_of_scalar {v : AV} (h : v.isAgg = false) : RV0 X E v y ↔ R X E v [y] := by
  constructor
  · rintro ⟨cs, h1, h2⟩; rw [h] at h2; simp only [VOf] at h2; rw [h2] at h1; exact h1
  · intro h1; exact ⟨[y], h1, by rw [h]; rfl⟩

theorem rv_fn {f : Nat} {a c : List AV} : RV0 X E (.fn f a c) y ↔ ∃ a' c', y = .func (.func f) a'.toArray c'.toArray ∧ RVs X E a a' ∧ RVs X E c c' := by
  rw [rv_of_scalar rfl]; simp only [R]
  constructor
  · rintro ⟨a', c', h, h1, h2⟩; exact ⟨a', c', by simpa using h, h1, h2⟩
  · rintro ⟨a', c', rfl, h1, h2⟩; exact ⟨a', c', rfl, h1, h2⟩
theorem rv_tup {l : List AV} : RV0 X E (.tup l) y ↔ ∃ ys, y = .tuple ys.toArray ∧ RVs X E l ys := by
  rw [rv_of_scalar rfl]; simp only [R]
  constructor
  · rintro ⟨ys, h, h1⟩; exact ⟨ys, by simpa using h, h1⟩
  · rintro ⟨ys, rfl, h1⟩; exact ⟨ys, rfl, h1⟩
theorem rv_ifc {t : Nat} {v : AV} : RV0 X E (.ifc t v) y ↔ ∃ x, y = .iface t x ∧ RV0 X E v x := by
  rw [rv_of_scalar rfl]; simp only [R]
  constructor
  · rintro ⟨x, ys, h, h1, h2⟩; exact ⟨x, by simpa using h, ys, h1, h2⟩
  · rintro ⟨x, rfl, ys, h1, h2⟩; exact ⟨x, ys, rfl, h1, h2⟩
theorem rv_difc {t : Nat} {v : D} : RV0 X E (.d (.ifc t v)) y ↔ ∃ x, y = .iface t x ∧ RV0 X E (.d v) x := by
  rw [rv_of_scalar rfl]; simp only [R, DRel]
  constructor
  · rintro ⟨x, ys, h, h1, h2⟩; exact ⟨x, by simpa using h, ys, by simpa only [R] using h1, h2⟩
  · rintro ⟨x, rfl, ys, h1, h2⟩; exact ⟨x, ys, rfl, by simpa only [R] using h1, h2⟩
end

theorem RVs.length {X : Tb} {E : Env} : ∀ {l : List AV} {ys : List Value}, RVs X E l ys → ys.length = l.length
  | [], ys, h => by simp only [RVs] at h; subst h; rfl
  | x :: l, ys, h => by simp only [RVs] at h; obtain ⟨cs, y, r, rfl, _, _, h3⟩ := h; simp [RVs.length h3]

theorem RVs.get {X : Tb} {E : Env} : ∀ {l : List AV} {ys : List Value}, RVs X E l ys → ∀ i, i < l.length → ∃ y, ys[i]? = some y ∧ RV0 X E (lget l i) y
  | [], ys, h, i, hi => by simp at hi
  | x :: l, ys, h, i, hi => by
    simp only [RVs] at h
    obtain ⟨cs, y, r, rfl, h1, h2, h3⟩ := h
    cases i with
    | zero => exact ⟨y, rfl, cs, h1, h2⟩
    | succ i => exact RVs.get h3 i (by simpa using hi)

theorem RVs.cons_iff {X : Tb} {E : Env} {x : AV} {l : List AV} {ys : List Value} : RVs X E (x :: l) ys ↔ ∃ y r, ys = y :: r ∧ RV0 X E x y ∧ RVs X E l r := by
  simp only [RVs]
  constructor
  · rintro ⟨cs, y, r, rfl, h1, h2, h3⟩; exact ⟨y, r, rfl, ⟨cs, h1, h2⟩, h3⟩
  · rintro ⟨y, r, rfl, ⟨cs, h1, h2⟩, h3⟩; exact ⟨cs, y, r, rfl, h1, h2, h3⟩

/-! ### Operands -/
theorem Obl_append {l m : List Bool} : Obl (l ++ m) ↔ Obl l ∧ Obl m := by
  induction l with
  | nil => simp [Obl]
  | cons p l ih => simp only [List.cons_append, Obl, ih, and_assoc]

section
variable {X : Tb} {E : Env} {A : Ari} {fr : List AV} {a : Act}

theorem ofConst_ok (v : Value) : RV0 X E (ofConst v) v := by
  unfold ofConst
  split
  · exact rv_bool.2 rfl
  · exact rv_int.2 rfl
  · exact rv_str.2 (by simp)
  · exact rv_nilp.2 rfl
  · exact rv_nils.2 rfl
  · exact rv_nilm.2 rfl
  · exact rv_nilf.2 rfl
  · exact rv_nili.2 rfl
  · exact rv_difc.2 ⟨_, rfl, rv_bool.2 rfl⟩
  · exact rv_difc.2 ⟨_, rfl, rv_int.2 rfl⟩
  · exact rv_difc.2 ⟨_, rfl, rv_str.2 (by simp)⟩
  · exact rv_undef

theorem strip_ok {v : AV} {y : Value} (h : RV X E v y) (ho : Obl (stripO A v)) : RV0 X E (strip v) y := by
  cases v <;> try exact h
  rename_i c v
  simp only [stripO, Obl, A.tt_eq, and_true] at ho
  exact h.1 ho

theorem ov_ok (hf : FrOK X E fr a.tmps) (x : Operand) (ho : Obl (oo A fr x)) : RV0 X E (ov fr x) (a.eval x) := by
  cases x with
  | tmp t =>
    by_cases ht : t < fr.length
    · exact strip_ok (hf.2 t ht) ho
    · have : lget fr t = .undef := by rw [lget_eq]; simp [List.getD, List.getElem?_eq_none (Nat.not_lt.1 ht)]; rfl
      simp only [ov, opd, this, strip]; exact rv_undef
  | const v =>
    have hs : strip (ofConst v) = ofConst v := by unfold ofConst; split <;> rfl
    simp only [ov, opd, hs]; exact ofConst_ok v
  | global g => exact ⟨[_], by simp only [ov, opd, strip, R, Act.eval], rfl⟩
  | func f => exact rv_fn.2 ⟨[], [], rfl, by simp [RVs], by simp [RVs]⟩

theorem deref_ok {P : Program} {V : List AO} {w : World} (hi : Inv X P E V w) {v : AV} {y : Value} (h : RV0 X E v y) : RV0 X E (deref X v) y := by
  cases v <;> try exact h
  rename_i g
  simp only [deref]
  split
  · rename_i x hx
    obtain ⟨ds, h1, h2⟩ := hi.glob.1 g x hx
    obtain ⟨cs, h3, h4⟩ := h
    simp only [R] at h3; subst h3
    exact ⟨_, by simp only [R]; exact ⟨g, 0, ds, 0, rfl, h1, h2, rfl⟩, h4⟩
  · exact h

theorem dov_ok {P : Program} {V : List AO} {w : World} (hi : Inv X P E V w) (hf : FrOK X E fr a.tmps) (x : Operand) (ho : Obl (oo A fr x)) : RV0 X E (deref X (ov fr x)) (a.eval x) := deref_ok hi (ov_ok hf x ho)

theorem ovs_ok (hf : FrOK X E fr a.tmps) : ∀ (l : List Operand), Obl (oos A fr l) → RVs X E (ovs fr l) (l.map a.eval)
  | [], _ => by simp [ovs, RVs]
  | x :: l, ho => by
    simp only [oos, Obl_append] at ho
    exact RVs.cons_iff.2 ⟨_, _, rfl, ov_ok hf x ho.1, ovs_ok hf l ho.2⟩
end
end Go.Sk
