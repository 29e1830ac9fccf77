/- Sk, part F: what the operations do: those that leave memory as it is. -/
import Derived.Test.YtlheciphihmomaaGreatDoorSkE
import Derived.Laws.Strings
import Derived.ChangeKeysEq
set_option linter.all false
namespace Go.Sk
open Go

theorem run_und_raw {P : Program} {t : Nat} {u : TypeDesc} {w : World} (h : P.underlying t = some u) : (underlying t).run P w = .ok u w := by
  simp [underlying, h]

/-- A run that hands back a value (or nothing), told abstractly. -/
def VDone (X : Tb) (P : Program) (E : Env) (w : World) (r : Result Next) (x : AV) (V' : List AO) : Prop :=
  ∃ n w' E', r = .ok n w' ∧ ((∃ y, n = .value y ∧ RV0 X E' x y) ∨ (n = .skip ∧ x = .undef)) ∧ Inv X P E' V' w' ∧ Ext E w E' w'

section
variable {X : Tb} {P : Program} {E : Env} {V : List AO} {w : World} {A : Ari} {fr : List AV} {a : Act}

theorem VDone.same (hi : Inv X P E V w) {r : Result Next} {x : AV} {y : Value} (hr : r = .ok (.value y) w) (hv : RV0 X E x y) : VDone X P E w r x V :=
  ⟨_, w, E, hr, .inl ⟨y, rfl, hv⟩, hi, .refl E w⟩

theorem ikEq_eq {k k' : IntKind} (h : ikEq k k' = true) : k = k' := by cases k <;> cases k' <;> simp_all [ikEq]

theorem avB_ok (hf : FrOK X E fr a.tmps) {x : Operand} {b : Bool} {oc : Option Bool} (h : avB A (opd fr x) = some (b, oc)) (hc : ∀ c, oc = some c → c = true) : a.eval x = .bool b := by
  have hr : RV X E (opd fr x) (a.eval x) := by
    cases x with
    | tmp t =>
      by_cases ht : t < fr.length
      · exact hf.2 t ht
      · have : lget fr t = .undef := by rw [lget_eq]; simp [List.getD, List.getElem?_eq_none (Nat.not_lt.1 ht)]; rfl
        simp only [opd, this]; exact rv_undef
    | const v =>
      have := ofConst_ok (X := X) (E := E) v
      simp only [opd]
      revert this
      generalize hc : ofConst v = q
      cases q <;> intro hq <;> first | exact hq | (unfold ofConst at hc; split at hc <;> cases hc)
    | global g => exact (show RV0 X E (.gl g) _ from ⟨[_], by simp only [R, Act.eval], rfl⟩)
    | func f => exact rv_fn.2 ⟨[], [], rfl, by simp [RVs], by simp [RVs]⟩
  revert h hr
  generalize opd fr x = q
  intro h hr
  unfold avB at h
  split at h
  · simp only [Option.some.injEq, Prod.mk.injEq] at h; obtain ⟨rfl, rfl⟩ := h; exact rv_bool.1 hr
  · simp only [Option.some.injEq, Prod.mk.injEq] at h; obtain ⟨rfl, rfl⟩ := h; exact rv_bool.1 (hr.1 (hc _ rfl))
  · cases h

theorem bin_int {t : Nat} {op : BinOp} {k k' : IntKind} {x y : Int} {v : AV} {ob : List Bool} (h : binAV A X t op (.d (.int k x)) (.d (.int k' y)) = some (v, ob)) (ho : Obl ob) :
    ∃ u, (binOp op t (.int k x) (.int k' y)).run P w = .ok u w ∧ RV0 X E v u := by
  cases op <;> simp only [binAV] at h
  case shl => simp only [Option.some.injEq, Prod.mk.injEq] at h; obtain ⟨rfl, rfl⟩ := h; simp only [Obl, A.ge0_eq, and_true] at ho; exact ⟨_, by simp [binOp, Op.shift, Int.not_lt.2 ho]; rfl, rv_int.2 (by rw [A.ar_eq]; rfl)⟩
  case shr => simp only [Option.some.injEq, Prod.mk.injEq] at h; obtain ⟨rfl, rfl⟩ := h; simp only [Obl, A.ge0_eq, and_true] at ho; exact ⟨_, by simp [binOp, Op.shift, Int.not_lt.2 ho]; rfl, rv_int.2 (by rw [A.ar_eq]; rfl)⟩
  case quo =>
    by_cases hk : ikEq k k' = true
    · rw [if_pos hk] at h; have hk := ikEq_eq hk; subst hk
      simp only [Option.some.injEq, Prod.mk.injEq] at h; obtain ⟨rfl, rfl⟩ := h; simp only [Obl, A.nz_eq, and_true] at ho
      exact ⟨_, by simp [binOp, Op.intDiv, ho]; rfl, rv_int.2 (by rw [A.ar_eq]; rfl)⟩
    · simp [hk] at h
  case rem =>
    by_cases hk : ikEq k k' = true
    · rw [if_pos hk] at h; have hk := ikEq_eq hk; subst hk
      simp only [Option.some.injEq, Prod.mk.injEq] at h; obtain ⟨rfl, rfl⟩ := h; simp only [Obl, A.nz_eq, and_true] at ho
      exact ⟨_, by simp [binOp, Op.intDiv, ho]; rfl, rv_int.2 (by rw [A.ar_eq]; rfl)⟩
    · simp [hk] at h
  all_goals by_cases hk : ikEq k k' = true
  all_goals try (simp [hk] at h; done)
  all_goals rw [if_pos hk] at h
  all_goals have hk := ikEq_eq hk
  all_goals subst hk
  all_goals simp only [isCmp, if_true, Bool.false_eq_true, if_false, Option.some.injEq, Prod.mk.injEq] at h
  all_goals obtain ⟨rfl, rfl⟩ := h
  all_goals first
    | exact ⟨_, by simp [binOp, Op.intArith]; rfl, rv_int.2 (by rw [A.ar_eq]; rfl)⟩
    | exact ⟨_, by simp [binOp, Op.intBits]; rfl, rv_int.2 (by rw [A.ar_eq]; rfl)⟩
    | exact ⟨_, by simp [binOp, Op.intCmp]; rfl, rv_bool.2 (by rw [A.cmp_eq]; rfl)⟩

theorem bin_str {t : Nat} {op : BinOp} {x y : List UInt8} {v : AV} {ob : List Bool} (h : binAV A X t op (.d (.str x)) (.d (.str y)) = some (v, ob)) (ho : Obl ob) :
    ∃ u, (binOp op t (.string ⟨x.toArray⟩) (.string ⟨y.toArray⟩)).run P w = .ok u w ∧ RV0 X E v u := by
  cases op <;> simp only [binAV, isCmp, if_true, Bool.false_eq_true, if_false, Option.some.injEq, Prod.mk.injEq, reduceCtorEq] at h
  case add =>
    obtain ⟨rfl, rfl⟩ := h
    simp only [Obl, A.room_eq, A.plus_eq, A.len_eq, and_true] at ho
    have hs : ¬ (((x.length + y.length : Nat) : Int) > IntKind.i64.max) := by
      simp [IntKind.max, IntKind.bits, IntKind.signed]; omega
    have hs' : ((⟨x.toArray⟩ : ByteArray).size + (⟨y.toArray⟩ : ByteArray).size : Nat) = x.length + y.length := by simp [ByteArray.size]
    refine ⟨.string (⟨x.toArray⟩ ++ ⟨y.toArray⟩), ?_, rv_str.2 ?_⟩
    · simp only [binOp, Op.stringOp, hs']
      rw [if_neg hs]; rfl
    · rw [A.app_eq]; congr 1
  all_goals obtain ⟨rfl, rfl⟩ := h
  all_goals exact ⟨_, by simp only [binOp, Op.stringOp, ByteArray.toList_mk]; rfl, rv_bool.2 (by rw [A.scmp_eq]; rfl)⟩

theorem guard_none {op : BinOp} {t : Nat} {x y : Operand} {u v : Value} (h1 : (u = .nilIface ∧ v = .nilIface) → (∃ c, x = .const c) ∨ (∃ c, y = .const c))
    (h2 : (∃ cs ds, u = .agg cs ∧ v = .agg ds) → P.eqGuardType P.depth t = false) : (eqGuard op t x y u v).run P w = .ok () w := by
  have key : ∀ o : BinOp, (o = .eql ∨ o = .neq) → (eqGuard o t x y u v).run P w = .ok () w := by
    intro o ho
    unfold eqGuard
    rcases ho with rfl | rfl <;> simp only [Bool.not_true, Bool.false_eq_true, if_false] <;>
    (cases u <;> cases v <;> try rfl)
    all_goals first
      | (rcases h1 ⟨rfl, rfl⟩ with ⟨c, rfl⟩ | ⟨c, rfl⟩ <;> first | (simp; done) | (cases x <;> simp; done))
      | (have := h2 ⟨_, _, rfl, rfl⟩; simp [this]; done)
  cases op <;> first | exact key _ (.inl rfl) | exact key _ (.inr rfl) | rfl

theorem eqItems_bytes {e d : Nat} (he : P.underlying e = some (.int .u8)) (hs : P.cellsOf e = 1) (hag : ∀ w : World, (isAgg e).run P w = .ok false w) :
    ∀ (l m : List UInt8) (pre pre' : List Value), pre.length = pre'.length → l.length = m.length →
    (Op.eqItems (d + 1) e 1 (pre ++ l.map fun b => Value.int .u8 (b.toNat : Int)).toArray (pre' ++ m.map fun b => Value.int .u8 (b.toNat : Int)).toArray (List.range' pre.length l.length)).run P w = .ok (l == m) w
  | [], [], pre, pre', hp, hl => by simp [Op.eqItems]
  | x :: l, y :: m, pre, pre', hp, hl => by
    have ih := eqItems_bytes (d := d) he hs hag l m (pre ++ [.int .u8 (x.toNat : Int)]) (pre' ++ [.int .u8 (y.toNat : Int)]) (by simp [hp]) (by simpa using hl)
    have h1 : (part e (pre ++ (x :: l).map fun b => Value.int .u8 (b.toNat : Int)).toArray (pre.length * 1)).run P w = .ok (.int .u8 (x.toNat : Int)) w := by
      simp [part, hag]
    have h2 : (part e (pre' ++ (y :: m).map fun b => Value.int .u8 (b.toNat : Int)).toArray (pre.length * 1)).run P w = .ok (.int .u8 (y.toNat : Int)) w := by
      simp [part, hag, hp]
    have h3 : (Op.equalIn (d + 1) e (.int .u8 (x.toNat : Int)) (.int .u8 (y.toNat : Int))).run P w = .ok (x == y) w := by
      simp only [Op.equalIn, Sem.run_bind, run_und_raw he, Result.andThen_ok]
      simp only [if_true, Sem.run_pure, Result.ok.injEq, and_true]
      rw [Bool.eq_iff_iff]; simp only [beq_iff_eq]; rw [Int.ofNat_inj, UInt8.toNat_inj]
    simp only [List.length_cons, List.range'_succ, Op.eqItems, Sem.run_bind, h1, h2, h3, Result.andThen_ok]
    by_cases hxy : x = y
    · subst hxy
      simp only [beq_self_eq_true, Bool.not_true, Bool.false_eq_true, if_false]
      simp only [List.map_cons, List.append_assoc, List.singleton_append, List.length_append, List.length_cons, List.length_nil, Nat.zero_add] at ih ⊢
      simpa using ih
    · have : (x == y) = false := by simpa using hxy
      simp [this]
  | [], y :: m, pre, pre', hp, hl => by simp at hl
  | x :: l, [], pre, pre', hp, hl => by simp at hl

/-- What '==' comes to, as Op.equal. -/
theorem run_eql_of {t : Nat} {x y : Value} {r : Bool} (h : (Op.equal t x y).run P w = .ok r w)
    (h1 : binOp .eql t x y = (do pure (.bool (← Op.equal t x y)) : Sem Value)) (h2 : binOp .neq t x y = (do pure (.bool (!(← Op.equal t x y))) : Sem Value)) :
    (binOp .eql t x y).run P w = .ok (.bool r) w ∧ (binOp .neq t x y).run P w = .ok (.bool (!r)) w := by
  constructor
  · rw [h1]; simp only [Sem.run_bind, h, Result.andThen_ok, Sem.run_pure]
  · rw [h2]; simp only [Sem.run_bind, h, Result.andThen_ok, Sem.run_pure]

theorem ptrNil_ok {v : AV} {y : Value} {b : Bool} (h : ptrNil v = some b) (hr : RV0 X E v y) : ∃ a, y = .pointer a ∧ a.isNone = b := by
  unfold ptrNil at h
  split at h <;> first | (cases h; done) | skip
  · cases h; exact ⟨none, rv_nilp.1 hr, rfl⟩
  · cases h
    have := (rv_of_scalar rfl).1 hr; simp only [R] at this
    obtain ⟨b, t, o, h1, _⟩ := this
    exact ⟨_, by simpa using h1, rfl⟩
  · cases h
    have := (rv_of_scalar rfl).1 hr; simp only [R] at this
    obtain ⟨b, o, ds, off, h1, _⟩ := this
    exact ⟨_, by simpa using h1, rfl⟩

theorem mapNil_ok {v : AV} {y : Value} {b : Bool} (h : mapNil v = some b) (hr : RV0 X E v y) : ∃ a, y = .map a ∧ a.isNone = b := by
  unfold mapNil at h
  split at h <;> first | (cases h; done) | skip
  · cases h; exact ⟨none, rv_nilm.1 hr, rfl⟩
  · cases h
    have := (rv_of_scalar rfl).1 hr; simp only [R] at this
    obtain ⟨b, h1, _⟩ := this
    exact ⟨_, by simpa using h1, rfl⟩

theorem fnNil_ok {v : AV} {y : Value} {b : Bool} (h : fnNil v = some b) (hr : RV0 X E v y) : (b = true ∧ y = .nilFunc) ∨ (b = false ∧ ∃ f a c, y = .func f a c) := by
  unfold fnNil at h
  split at h <;> first | (cases h; done) | skip
  · cases h; exact .inl ⟨rfl, rv_nilf.1 hr⟩
  · cases h
    obtain ⟨a', c', rfl, _⟩ := rv_fn.1 hr
    exact .inr ⟨rfl, _, _, _, rfl⟩
  · cases h
    have := (rv_of_scalar rfl).1 hr; simp only [R] at this
    obtain ⟨b, h1, _⟩ := this
    exact .inr ⟨rfl, _, _, _, by simpa using h1⟩

theorem ifcNil_ok {v : AV} {y : Value} {b : Bool} (h : ifcNil v = some b) (hr : RV0 X E v y) : (b = true ∧ y = .nilIface ∧ v = .d .nili) ∨ (b = false ∧ ∃ t x, y = .iface t x) := by
  unfold ifcNil at h
  split at h <;> first | (cases h; done) | skip
  · cases h; exact .inl ⟨rfl, rv_nili.1 hr, rfl⟩
  · cases h
    obtain ⟨x, rfl, _⟩ := rv_difc.1 hr
    exact .inr ⟨rfl, _, _, rfl⟩
  · cases h
    obtain ⟨x, rfl, _⟩ := rv_ifc.1 hr
    exact .inr ⟨rfl, _, _, rfl⟩

theorem nilEq_some {a b : Option Bool} {r : Bool} (h : nilEq a b = some r) : (∃ c, a = some true ∧ b = some c ∧ r = c) ∨ (∃ c, a = some c ∧ b = some true ∧ r = c) := by
  unfold nilEq at h
  split at h
  · cases h; exact .inl ⟨_, rfl, rfl, rfl⟩
  · cases h; exact .inr ⟨_, rfl, rfl, rfl⟩
  · cases h

theorem step_und {α : Type} {t : Nat} {u : TypeDesc} (k : TypeDesc → Sem α) (hu : P.underlying t = some u) : (underlying t >>= k).run P w = (k u).run P w := by
  rw [Sem.run_bind, run_und_raw hu]; rfl

theorem equal_unfold : ∃ d, ∀ (t : Nat) (x y : Value), Op.equal t x y = Op.equalIn (d + 1 + 1) t x y := ⟨9998, fun _ _ _ => rfl⟩

set_option maxHeartbeats 1000000 in
theorem eqAV_ok (hX : TbOK X P) {t : Nat} {vx vy : AV} {x y : Value} {r : Bool} (h : eqAV A X t vx vy = some r) (hx : RV0 X E vx x) (hy : RV0 X E vy y) (ox oy : Operand)
    (hn : nilPair vx vy ox oy = false) (op : BinOp) :
    (eqGuard op t ox oy x y).run P w = .ok () w ∧ (binOp .eql t x y).run P w = .ok (.bool r) w ∧ (binOp .neq t x y).run P w = .ok (.bool (!r)) w := by
  obtain ⟨d, hd⟩ := equal_unfold
  unfold eqAV at h
  split at h
  · -- bool
    rename_i htd
    split at h
    · cases h
      rw [rv_bool] at hx hy; subst hx hy
      obtain ⟨u, hu, rfl⟩ := (hX.known htd (by simp) (by simp)).und
      refine ⟨guard_none (by simp) (by simp), ?_⟩
      rw [A.eqB_eq]
      refine run_eql_of ?_ rfl rfl
      rw [hd]; exact (step_und _ hu).trans rfl
    · cases h
  · -- arrays of bytes
    rename_i sz n e htd
    split at h
    · rename_i n1 l n2 m
      split at h
      · rename_i hc
        cases h
        simp only [Bool.and_eq_true, beq_iff_eq] at hc
        obtain ⟨⟨rfl, rfl⟩, hu8⟩ := hc
        have hte : X.td e = .int .u8 := by unfold isU8 at hu8; split at hu8 <;> simp_all
        obtain ⟨u, hu, rfl, hsz⟩ := (hX.known htd (by simp) (by simp)).und
        obtain ⟨ue, hue, rfl⟩ := (hX.known hte (by simp) (by simp)).und
        obtain ⟨i, hi, his, _⟩ := (hX.known hte (by simp) (by simp)).info
        obtain ⟨cs, h1, h2⟩ := hx
        obtain ⟨ds, h3, h4⟩ := hy
        simp only [R, DRel, SqR, Sq.length] at h1 h3
        obtain ⟨rfl, hl⟩ := h1
        obtain ⟨rfl, hm⟩ := h3
        simp only [AV.isAgg, D.isAgg, VOf] at h2 h4
        subst h2 h4
        have hcell : P.cellsOf e = 1 := by simp [Program.cellsOf, hi, his, TD.size]
        refine ⟨guard_none (by simp) (fun _ => ?_), ?_⟩
        · have hd' : P.depth = (P.depth - 2) + 1 + 1 := by unfold Program.depth; omega
          rw [hd']; simp only [Program.eqGuardType, hu, hue]
        · rw [A.scmp_eq]
          refine run_eql_of ?_ rfl rfl
          rw [hd, run_equalIn_array (w := w) (d + 1) _ _ hu hi, hcell]
          have := eqItems_bytes (d := d) (w := w) hue hcell (fun w => run_isAgg hX hte (by simp) (by simp)) l m [] [] rfl (by omega)
          simp only [List.nil_append, List.length_nil] at this
          rw [List.range_eq_range', ← hl]; exact this
      · cases h
    · cases h
  · -- pointers
    rename_i e htd
    obtain ⟨u, hu, rfl⟩ := (hX.known htd (by simp) (by simp)).und
    rcases nilEq_some h with ⟨c, h1, h2, rfl⟩ | ⟨c, h1, h2, rfl⟩
    · obtain ⟨p, rfl, hp⟩ := ptrNil_ok h1 hx; obtain ⟨q, rfl, hq⟩ := ptrNil_ok h2 hy
      cases p <;> simp at hp
      refine ⟨guard_none (by simp) (by simp), run_eql_of ?_ rfl rfl⟩
      rw [hd]; subst hq; exact (step_und _ hu).trans rfl
    · obtain ⟨p, rfl, hp⟩ := ptrNil_ok h1 hx; obtain ⟨q, rfl, hq⟩ := ptrNil_ok h2 hy
      cases q <;> simp at hq
      refine ⟨guard_none (by simp) (by simp), run_eql_of ?_ rfl rfl⟩
      rw [hd]
      cases p <;> simp at hp <;> subst hp <;> exact (step_und _ hu).trans rfl
  · -- slices
    rename_i e htd
    obtain ⟨u, hu, rfl⟩ := (hX.known htd (by simp) (by simp)).und
    split at h
    · cases h
      rw [rv_nils] at hx hy; subst hx hy
      refine ⟨guard_none (by simp) (by simp), run_eql_of ?_ rfl rfl⟩
      rw [hd]; exact (step_und _ hu).trans rfl
    · cases h
  · -- maps
    rename_i k e htd
    obtain ⟨u, hu, rfl⟩ := (hX.known htd (by simp) (by simp)).und
    rcases nilEq_some h with ⟨c, h1, h2, rfl⟩ | ⟨c, h1, h2, rfl⟩
    · obtain ⟨p, rfl, hp⟩ := mapNil_ok h1 hx; obtain ⟨q, rfl, hq⟩ := mapNil_ok h2 hy
      cases p <;> simp at hp
      refine ⟨guard_none (by simp) (by simp), run_eql_of ?_ rfl rfl⟩
      rw [hd]; subst hq; exact (step_und _ hu).trans rfl
    · obtain ⟨p, rfl, hp⟩ := mapNil_ok h1 hx; obtain ⟨q, rfl, hq⟩ := mapNil_ok h2 hy
      cases q <;> simp at hq
      refine ⟨guard_none (by simp) (by simp), run_eql_of ?_ rfl rfl⟩
      rw [hd]
      cases p <;> simp at hp <;> subst hp <;> exact (step_und _ hu).trans rfl
  · -- functions
    rename_i htd
    obtain ⟨u, hu, ua, ub, uc, rfl⟩ := (hX.known htd (by simp) (by simp)).und
    rcases nilEq_some h with ⟨c, h1, h2, rfl⟩ | ⟨c, h1, h2, rfl⟩ <;>
    rcases fnNil_ok h1 hx with ⟨h3, rfl⟩ | ⟨h3, f, p, q, rfl⟩ <;> rcases fnNil_ok h2 hy with ⟨h4, rfl⟩ | ⟨h4, f', p', q', rfl⟩ <;> (try cases h3) <;> (try cases h4) <;>
    (refine ⟨guard_none (by simp) (by simp), run_eql_of ?_ rfl rfl⟩
     rw [hd]; exact (step_und _ hu).trans rfl)
  · -- interfaces
    rename_i em htd
    obtain ⟨u, hu, ms, rfl, _⟩ := (hX.known htd (by simp) (by simp)).und
    rcases nilEq_some h with ⟨c, h1, h2, rfl⟩ | ⟨c, h1, h2, rfl⟩ <;>
    rcases ifcNil_ok h1 hx with ⟨h3, rfl, e1⟩ | ⟨h3, p, q, rfl⟩ <;> rcases ifcNil_ok h2 hy with ⟨h4, rfl, e2⟩ | ⟨h4, p', q', rfl⟩ <;> (try cases h3) <;> (try cases h4) <;>
    (refine ⟨guard_none (fun hh => ?_) (by simp), run_eql_of ?_ rfl rfl⟩ <;>
      first
      | (rw [hd]; exact (step_und _ hu).trans rfl; done)
      | (simp at hh; done)
      | (subst e1 e2; cases ox <;> cases oy <;> first | exact .inl ⟨_, rfl⟩ | exact .inr ⟨_, rfl⟩ | (simp [nilPair] at hn)))
  · cases h

theorem slNil_ok {v : AV} {y : Value} {b : Bool} {o : List Bool} (h : slNil A v = some (b, o)) (ho : Obl o) (hr : RV0 X E v y) : ∃ a n c, y = .slice a n c ∧ a.isNone = b := by
  have at_ : ∀ {q : Sq D} {ds : List Value}, SlAt E.Γ y q.length ds → A.inb 0 (q.len A) = true → ∃ a n c, y = .slice a n c ∧ a.isNone = false := by
    intro q ds hs hb
    rw [A.inb_eq] at hb
    have hl : q.len A = (q.length : Int) := by cases q <;> simp [Sq.len, Sq.length, A.len_eq]
    rw [hl] at hb
    rcases hs with ⟨b, o, cap, rfl, _⟩ | ⟨_, _, h0⟩
    · exact ⟨_, _, _, rfl, rfl⟩
    · omega
  obtain ⟨cs, h1, h2⟩ := hr
  unfold slNil at h
  split at h
  · cases h
    simp only [R, DRel] at h1; subst h1
    simp only [VOf, AV.isAgg, D.isAgg, List.cons.injEq, and_true] at h2; subst h2
    exact ⟨_, _, _, rfl, rfl⟩
  · cases h
    simp only [R, DRel] at h1
    obtain ⟨v', ds, rfl, h3, h4⟩ := h1
    simp only [VOf, AV.isAgg, D.isAgg, List.cons.injEq, and_true] at h2; subst h2
    exact at_ h4 ho.1
  · cases h
    simp only [R, DRel] at h1
    obtain ⟨v', ds, rfl, h3, h4, _⟩ := h1
    simp only [VOf, AV.isAgg, D.isAgg, List.cons.injEq, and_true] at h2; subst h2
    exact at_ h4 ho.1
  · cases h
    simp only [R] at h1
    obtain ⟨v', ds, τ, c, rfl, h3, h4, _⟩ := h1
    simp only [VOf, AV.isAgg, List.cons.injEq, and_true] at h2; subst h2
    exact at_ h4 ho.1
  · cases h
    simp only [R] at h1
    obtain ⟨_, _, _, _, _, _, _, _, rfl, _⟩ := h1
    simp only [VOf, AV.isAgg, List.cons.injEq, and_true] at h2; subst h2
    exact ⟨_, _, _, rfl, rfl⟩
  · cases h

theorem slEq_ok (hX : TbOK X P) {t : Nat} {vx vy : AV} {x y : Value} {r : Bool} {o : List Bool} (h : slEq A X t vx vy = some (r, o)) (ho : Obl o) (hx : RV0 X E vx x) (hy : RV0 X E vy y) (ox oy : Operand) (op : BinOp) :
    (eqGuard op t ox oy x y).run P w = .ok () w ∧ (binOp .eql t x y).run P w = .ok (.bool r) w ∧ (binOp .neq t x y).run P w = .ok (.bool (!r)) w := by
  obtain ⟨d, hd⟩ := equal_unfold
  unfold slEq at h
  split at h
  · rename_i e htd
    obtain ⟨u, hu, rfl⟩ := (hX.known htd (by simp) (by simp)).und
    split at h
    · rw [rv_nils] at hy; subst hy
      obtain ⟨a, n, c, rfl, hb⟩ := slNil_ok h ho hx
      refine ⟨guard_none (by simp) (by simp), run_eql_of ?_ rfl rfl⟩
      rw [hd]; subst hb; cases a <;> exact (step_und _ hu).trans rfl
    · split at h
      · rw [rv_nils] at hx; subst hx
        obtain ⟨a, n, c, rfl, hb⟩ := slNil_ok h ho hy
        refine ⟨guard_none (by simp) (by simp), run_eql_of ?_ rfl rfl⟩
        rw [hd]; subst hb; cases a <;> exact (step_und _ hu).trans rfl
      · cases h
  · cases h

theorem binOp_ok (hX : TbOK X P) {t : Nat} {op : BinOp} {vx vy v : AV} {x y : Value} {ob : List Bool} (h : binAV A X t op vx vy = some (v, ob)) (ho : Obl ob)
    (hx : RV0 X E vx x) (hy : RV0 X E vy y) (ox oy : Operand) (hn : nilPair vx vy ox oy = false) :
    ∃ u, (do eqGuard op t ox oy x y; binOp op t x y : Sem Value).run P w = .ok u w ∧ RV0 X E v u := by
  by_cases hi : ∃ k n k' n', vx = .d (.int k n) ∧ vy = .d (.int k' n')
  · obtain ⟨k, n, k', n', rfl, rfl⟩ := hi
    rw [rv_int] at hx hy; subst hx hy
    obtain ⟨u, h1, h2⟩ := bin_int (P := P) (E := E) (w := w) h ho
    exact ⟨u, by simp only [Sem.run_bind, guard_none (P := P) (w := w) (op := op) (t := t) (x := ox) (y := oy) (u := .int k n) (v := .int k' n') (by simp) (by simp), Result.andThen_ok, h1], h2⟩
  by_cases hs : ∃ k k', vx = .d (.str k) ∧ vy = .d (.str k')
  · obtain ⟨k, k', rfl, rfl⟩ := hs
    rw [rv_str] at hx hy; subst hx hy
    obtain ⟨u, h1, h2⟩ := bin_str (P := P) (E := E) (w := w) h ho
    exact ⟨u, by simp only [Sem.run_bind, guard_none (P := P) (w := w) (op := op) (t := t) (x := ox) (y := oy) (u := .string ⟨k.toArray⟩) (v := .string ⟨k'.toArray⟩) (by simp) (by simp), Result.andThen_ok, h1], h2⟩
  unfold binAV at h
  split at h
  · exact absurd ⟨_, _, _, _, rfl, rfl⟩ hi
  · exact absurd ⟨_, _, rfl, rfl⟩ hs
  · split at h
    · split at h
      · rename_i r o' hr
        cases h
        obtain ⟨h1, h2, h3⟩ := slEq_ok (P := P) (w := w) hX hr ho hx hy ox oy .eql
        exact ⟨_, by simp only [Sem.run_bind, h1, Result.andThen_ok, h2], rv_bool.2 rfl⟩
      · split at h
        · rename_i r hr
          cases h
          obtain ⟨h1, h2, h3⟩ := eqAV_ok (P := P) (w := w) hX hr hx hy ox oy hn .eql
          exact ⟨_, by simp only [Sem.run_bind, h1, Result.andThen_ok, h2], rv_bool.2 rfl⟩
        · cases h
    · split at h
      · rename_i r o' hr
        cases h
        obtain ⟨h1, h2, h3⟩ := slEq_ok (P := P) (w := w) hX hr ho hx hy ox oy .neq
        exact ⟨.bool (!r), by simp only [Sem.run_bind, h1, Result.andThen_ok, h3], rv_bool.2 rfl⟩
      · split at h
        · rename_i r hr
          cases h
          obtain ⟨h1, h2, h3⟩ := eqAV_ok (P := P) (w := w) hX hr hx hy ox oy hn .neq
          exact ⟨.bool (!r), by simp only [Sem.run_bind, h1, Result.andThen_ok, h3], rv_bool.2 (by rw [A.not_eq])⟩
        · cases h
    · cases h

end
end Go.Sk
