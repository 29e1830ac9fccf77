/- Sk, part ZH: the table of types, checked against the program (begun). -/
import Derived.Test.YtlheciphihmomaaGreatDoorSkZG
set_option linter.all false
namespace Go.Sk
open Go

mutual
def flatD : D → Option (List Value)
  | .bool b => some [.bool b]
  | .int k n => some [.int k n]
  | .str s => some [.string ⟨s.toArray⟩]
  | .agg l => flatDs l
  | .arr n q => if q.length == n then flatQ q else none
  | .nils => some [.slice none 0 0]
  | .nilp => some [.pointer none]
  | .nilm => some [.map none]
  | .nilf => some [.nilFunc]
  | .nili => some [.nilIface]
  | _ => none
def flatDs : List D → Option (List Value)
  | [] => some []
  | x :: l => match flatD x, flatDs l with
    | some a, some b => some (a ++ b)
    | _, _ => none
def flatQ : Sq D → Option (List Value)
  | .b l => some (l.map fun b => Value.int .u8 (b.toNat : Int))
  | .s l => some (l.map fun s => Value.string ⟨s.toArray⟩)
  | .i k l => some (l.map fun n => Value.int k n)
  | .g sh l => if shAll sh l then flatDs l else none
end

mutual
theorem flatD_ok {Γ : Gam} : ∀ (x : D) (cs : List Value), flatD x = some cs → DRel Γ x cs
  | .bool b, cs, h => by simp only [flatD, Option.some.injEq] at h; subst h; simp [DRel]
  | .int k n, cs, h => by simp only [flatD, Option.some.injEq] at h; subst h; simp [DRel]
  | .str s, cs, h => by simp only [flatD, Option.some.injEq] at h; subst h; simp [DRel]
  | .agg l, cs, h => by simp only [flatD] at h; simp only [DRel]; exact flatDs_ok l cs h
  | .arr n q, cs, h => by
    simp only [flatD] at h
    split at h
    · rename_i hl; simp only [beq_iff_eq] at hl; simp only [DRel]; exact ⟨flatQ_ok q cs h, hl⟩
    · cases h
  | .nils, cs, h => by simp only [flatD, Option.some.injEq] at h; subst h; simp [DRel]
  | .nilp, cs, h => by simp only [flatD, Option.some.injEq] at h; subst h; simp [DRel]
  | .nilm, cs, h => by simp only [flatD, Option.some.injEq] at h; subst h; simp [DRel]
  | .nilf, cs, h => by simp only [flatD, Option.some.injEq] at h; subst h; simp [DRel]
  | .nili, cs, h => by simp only [flatD, Option.some.injEq] at h; subst h; simp [DRel]
  | .sl _, cs, h => by simp [flatD] at h
  | .slx _, cs, h => by simp [flatD] at h
  | .ifc _ _, cs, h => by simp [flatD] at h
  | .junk, cs, h => by simp [flatD] at h
theorem flatDs_ok {Γ : Gam} : ∀ (x : List D) (cs : List Value), flatDs x = some cs → DsRel Γ x cs
  | [], cs, h => by simp only [flatDs, Option.some.injEq] at h; subst h; simp [DsRel]
  | x :: l, cs, h => by
    simp only [flatDs] at h
    split at h
    · rename_i a b ha hb
      simp only [Option.some.injEq] at h; subst h
      simp only [DsRel]
      exact ⟨a, b, rfl, flatD_ok x a ha, flatDs_ok l b hb⟩
    · cases h
theorem flatQ_ok {Γ : Gam} : ∀ (x : Sq D) (cs : List Value), flatQ x = some cs → SqR Γ x cs
  | .b l, cs, h => by simp only [flatQ, Option.some.injEq] at h; subst h; simp [SqR]
  | .s l, cs, h => by simp only [flatQ, Option.some.injEq] at h; subst h; simp [SqR]
  | .i k l, cs, h => by simp only [flatQ, Option.some.injEq] at h; subst h; simp [SqR]
  | .g sh l, cs, h => by
    simp only [flatQ] at h
    split at h
    · rename_i hs; simp only [SqR]; exact ⟨flatDs_ok l cs h, shAll_ok l hs⟩
    · cases h
end

/-- Values that zero values are made of, compared. -/
def valB : Value → Value → Bool
  | .bool a, .bool b => a == b
  | .int k a, .int k' b => ikEq k k' && a == b
  | .string a, .string b => a.data.toList == b.data.toList
  | .pointer none, .pointer none => true
  | .slice none 0 0, .slice none 0 0 => true
  | .map none, .map none => true
  | .nilFunc, .nilFunc => true
  | .nilIface, .nilIface => true
  | _, _ => false

theorem valB_eq {a b : Value} (h : valB a b = true) : a = b := by
  unfold valB at h
  split at h <;> first
    | rfl
    | (cases h; done)
    | (simp only [beq_iff_eq] at h; rw [h]; done)
    | (simp only [Bool.and_eq_true, beq_iff_eq] at h; rw [ikEq_eq h.1, h.2]; done)
    | skip
  rename_i x y
  simp only [beq_iff_eq] at h
  cases x; cases y
  simp only at h
  rw [Array.toList_inj.1 h]

def valsB : List Value → List Value → Bool
  | [], [] => true
  | a :: l, b :: m => valB a b && valsB l m
  | _, _ => false

theorem valsB_eq : ∀ {a b : List Value}, valsB a b = true → a = b
  | [], [], _ => rfl
  | a :: l, b :: m, h => by
    simp only [valsB, Bool.and_eq_true] at h
    rw [valB_eq h.1, valsB_eq h.2]
  | [], _ :: _, h => by cases h
  | _ :: _, [], h => by cases h

def zeroB (agg : Bool) (cs : List Value) (z : Value) : Bool :=
  match agg with
  | true => match z with | .agg c => valsB c.toList cs | _ => false
  | false => match cs with | [v] => valB z v | _ => false

theorem zeroB_ok {agg : Bool} {cs : List Value} {z : Value} (h : zeroB agg cs z = true) : VOf agg cs z := by
  unfold zeroB at h
  split at h
  · split at h
    · have := valsB_eq h; subst this; simp [VOf]
    · cases h
  · split at h
    · rw [valB_eq h]; rfl
    · cases h

/-! ### Types -/
def natsB : List Nat → List Nat → Bool
  | [], [] => true
  | a :: l, b :: m => a == b && natsB l m
  | _, _ => false
theorem natsB_eq : ∀ {a b : List Nat}, natsB a b = true → a = b
  | [], [], _ => rfl
  | a :: l, b :: m, h => by
    simp only [natsB, Bool.and_eq_true, beq_iff_eq] at h
    rw [h.1, natsB_eq h.2]
  | [], _ :: _, h => by cases h
  | _ :: _, [], h => by cases h

def tdB : TD → TD → Bool
  | .bool, .bool => true
  | .int k, .int k' => ikEq k k'
  | .str, .str => true
  | .ptr e, .ptr e' => e == e'
  | .sl e, .sl e' => e == e'
  | .map k e, .map k' e' => k == k' && e == e'
  | .strct s l, .strct s' l' => s == s' && natsB l l'
  | .arr s n e, .arr s' n' e' => s == s' && n == n' && e == e'
  | .ifc a, .ifc b => a == b
  | .fn, .fn => true
  | .tup l, .tup l' => natsB l l'
  | .other, .other => true
  | _, _ => false

theorem tdB_eq {a b : TD} (h : tdB a b = true) : a = b := by
  unfold tdB at h
  split at h <;> first
    | rfl
    | (cases h; done)
    | (rw [ikEq_eq h]; done)
    | (rw [natsB_eq h]; done)
    | (simp only [beq_iff_eq] at h; rw [h]; done)
    | (simp only [Bool.and_eq_true, beq_iff_eq] at h; rw [h.1, h.2]; done)
    | (simp only [Bool.and_eq_true, beq_iff_eq] at h; rw [h.1, natsB_eq h.2]; done)
    | (simp only [Bool.and_eq_true, beq_iff_eq] at h; rw [h.1.1, h.1.2, h.2]; done)

def offsB (X : Tb) (fs : List Nat) : List Field → Nat → Bool
  | [], _ => true
  | x :: l, i => x.offset == sumSz X fs i && offsB X fs l (i + 1)

theorem offsB_ok {X : Tb} {fs : List Nat} : ∀ {l : List Field} {i : Nat}, offsB X fs l i = true → ∀ (j : Nat) (x : Field), l[j]? = some x → x.offset = sumSz X fs (i + j)
  | [], _, _, j, x, h => by simp at h
  | y :: l, i, hb, 0, x, h => by
    simp only [offsB, Bool.and_eq_true, beq_iff_eq] at hb
    simp only [List.getElem?_cons_zero, Option.some.injEq] at h; subst h; exact hb.1
  | y :: l, i, hb, j + 1, x, h => by
    simp only [offsB, Bool.and_eq_true] at hb
    rw [List.getElem?_cons_succ] at h
    have := offsB_ok hb.2 j x h
    rw [this]; congr 1; omega

def descB (X : Tb) (d : TD) (u : TypeDesc) : Bool :=
  match d, u with
  | .bool, .bool => true
  | .int k, .int k' => ikEq k k'
  | .str, .string => true
  | .ptr e, .pointer e' => e == e'
  | .sl e, .slice e' => e == e'
  | .map k e, .map k' e' => k == k' && e == e'
  | .strct sz fs, .struct f => natsB (f.toList.map (·.type)) fs && offsB X fs f.toList 0 && sz == sumSz X fs fs.length
  | .arr sz n e, .array n' e' => n == n' && e == e' && sz == n * (X.td e).size
  | .ifc em, .interface ms => em == ms.isEmpty
  | .fn, .func .. => true
  | _, _ => false

theorem descB_ok {X : Tb} {d : TD} {u : TypeDesc} (h : descB X d u = true) : DescOK X d u := by
  unfold descB at h
  split at h
  · rfl
  · simp only [DescOK]; rw [ikEq_eq h]
  · rfl
  · simp only [beq_iff_eq] at h; subst h; rfl
  · simp only [beq_iff_eq] at h; subst h; rfl
  · simp only [Bool.and_eq_true, beq_iff_eq] at h; obtain ⟨rfl, rfl⟩ := h; rfl
  · simp only [Bool.and_eq_true, beq_iff_eq] at h
    obtain ⟨⟨h1, h2⟩, h3⟩ := h
    refine ⟨_, rfl, natsB_eq h1, fun i x hx => ?_, h3⟩
    have := offsB_ok h2 i x (by simpa using hx)
    rw [Nat.zero_add] at this; exact this
  · simp only [Bool.and_eq_true, beq_iff_eq] at h; obtain ⟨⟨rfl, rfl⟩, h3⟩ := h; exact ⟨rfl, h3⟩
  · simp only [beq_iff_eq] at h; exact ⟨_, rfl, h⟩
  · exact ⟨_, _, _, rfl⟩
  · cases h

def tyB (P : Program) (X : Tb) (t : Nat) : Bool :=
  match P.info? t, P.underlying t, flatD (zeroD X depth t) with
  | some i, some u, some cs => match i.zero with
    | some z => i.size == (X.td t).size && i.bytes == X.bytes t && zeroB (X.td t).isAgg cs z && cs.length == (X.td t).size && descB X (X.td t) u
    | none => false
  | _, _, _ => false

theorem tyB_ok {P : Program} {X : Tb} {t : Nat} (h : tyB P X t = true) : TyOK X P t (X.td t) := by
  unfold tyB at h
  split at h
  · rename_i i u cs hi hu hc
    split at h
    · rename_i z hz
      simp only [Bool.and_eq_true, beq_iff_eq] at h
      obtain ⟨⟨⟨⟨h1, h2⟩, h3⟩, h4⟩, h5⟩ := h
      exact ⟨⟨i, hi, h1, h2, fun z' hz' => by rw [hz] at hz'; cases hz'; exact ⟨cs, flatD_ok _ _ hc, zeroB_ok h3, h4⟩⟩, ⟨i, hi, by rw [hz]; rfl⟩, ⟨u, hu, descB_ok h5⟩⟩
    · cases h
  · cases h

def oneB (P : Program) (X : Tb) (t : Nat) : Bool :=
  (match X.td t with
  | .tup _ => true
  | .other => true
  | _ => tyB P X t) && tdB (X.td (X.un t)) (X.td t)

def tysB (P : Program) (X : Tb) : Nat → Bool
  | 0 => true
  | n + 1 => oneB P X n && tysB P X n

theorem tysB_ok {P : Program} {X : Tb} : ∀ {n : Nat}, tysB P X n = true → ∀ t, t < n → oneB P X t = true
  | 0, _, t, h => by omega
  | n + 1, hb, t, h => by
    simp only [tysB, Bool.and_eq_true] at hb
    by_cases he : t = n
    · subst he; exact hb.1
    · exact tysB_ok hb.2 t (by omega)

theorem tbOK_of {P : Program} {X : Tb} (h : tysB P X X.n = true) (he : X.rtErr = P.rt.errorString) : TbOK X P := by
  refine ⟨fun t d hd => ?_, fun t => ?_, he⟩
  · by_cases hlt : t < X.n
    · have := tysB_ok h t hlt
      simp only [oneB, Bool.and_eq_true] at this
      have h1 := this.1
      subst hd
      split at h1
      · rename_i l hq; exact .inl ⟨l, hq⟩
      · rename_i hq; exact .inr (.inl hq)
      · exact .inr (.inr (tyB_ok h1))
    · refine .inr (.inl ?_)
      rw [← hd]; unfold Tb.td; rw [if_neg (by simpa using hlt)]
  · by_cases hlt : t < X.n
    · have := tysB_ok h t hlt
      simp only [oneB, Bool.and_eq_true] at this
      exact tdB_eq this.2
    · have : X.un t = t := by unfold Tb.un; rw [if_neg (by simpa using hlt)]
      rw [this]

end Go.Sk
