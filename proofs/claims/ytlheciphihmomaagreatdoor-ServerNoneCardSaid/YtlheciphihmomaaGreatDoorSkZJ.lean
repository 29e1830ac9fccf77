/- Sk, part ZJ: operations look at their operands alone; those that don't look at the objects. -/
import Derived.Test.YtlheciphihmomaaGreatDoorSkZA
set_option linter.all false
namespace Go.Sk
open Go

theorem mem_iff {n : Nat} : ∀ {l : List Nat}, mem n l = true ↔ n ∈ l
  | [] => by simp [mem]
  | m :: l => by simp [mem, mem_iff (l := l)]

theorem mems_iff {d : List Nat} : ∀ {l : List Nat}, mems l d = true ↔ ∀ n, n ∈ l → n ∈ d
  | [] => by simp [mems]
  | m :: l => by simp [mems, mem_iff, mems_iff (l := l)]

theorem allB_iff {α : Type} {p : α → Bool} : ∀ {l : List α}, allB p l = true ↔ ∀ x, x ∈ l → p x = true
  | [] => by simp [allB]
  | m :: l => by simp [allB, allB_iff (l := l)]

theorem anyB_iff {α : Type} {p : α → Bool} : ∀ {l : List α}, anyB p l = true ↔ ∃ x, x ∈ l ∧ p x = true
  | [] => by simp [anyB]
  | m :: l => by simp [anyB, anyB_iff (l := l)]

theorem zipI_mem {α : Type} : ∀ {l : List α} {n i : Nat} {x : α}, (i, x) ∈ zipI n l ↔ n ≤ i ∧ l[i - n]? = some x
  | [], n, i, x => by simp [zipI]
  | y :: l, n, i, x => by
    simp only [zipI, List.mem_cons, Prod.mk.injEq, zipI_mem (l := l)]
    constructor
    · rintro (⟨rfl, rfl⟩ | ⟨h1, h2⟩)
      · simp
      · refine ⟨by omega, ?_⟩
        rw [show i - n = (i - (n + 1)) + 1 by omega, List.getElem?_cons_succ]; exact h2
    · rintro ⟨h1, h2⟩
      by_cases he : i = n
      · subst he; simp at h2; exact .inl ⟨rfl, h2.symm⟩
      · right
        rw [show i - n = (i - (n + 1)) + 1 by omega, List.getElem?_cons_succ] at h2
        exact ⟨by omega, h2⟩

theorem zip_mem {ops : Array Oper} {i : Nat} {o : Oper} : (i, o) ∈ zipI 0 ops.toList ↔ ops[i]? = some o := by
  rw [zipI_mem]; simp

section
variable {X : Tb} {P : Program} {M : Mt} {F : FuncId} {C : Code} {A : Ari}

theorem opd_congr {fr fr' : List AV} {x : Operand} (h : ∀ t, x = .tmp t → lget fr t = lget fr' t) : opd fr x = opd fr' x := by
  cases x with
  | tmp t => exact h t rfl
  | _ => rfl

theorem ov_congr {fr fr' : List AV} {x : Operand} (h : ∀ t, x = .tmp t → lget fr t = lget fr' t) : ov fr x = ov fr' x := by simp only [ov, opd_congr h]
theorem oo_congr {fr fr' : List AV} {x : Operand} (h : ∀ t, x = .tmp t → lget fr t = lget fr' t) : oo A fr x = oo A fr' x := by simp only [oo, opd_congr h]

theorem ovs_congr {fr fr' : List AV} {l : List Operand} (h : ∀ t, .tmp t ∈ l → lget fr t = lget fr' t) : ovs fr l = ovs fr' l :=
  List.map_congr_left fun x hx => ov_congr fun t ht => h t (ht ▸ hx)

theorem oos_congr {fr fr' : List AV} : ∀ {l : List Operand}, (∀ t, .tmp t ∈ l → lget fr t = lget fr' t) → oos A fr l = oos A fr' l
  | [], _ => rfl
  | x :: l, h => by
    simp only [oos]
    rw [oo_congr fun t ht => h t (by simp [ht]), oos_congr fun t ht => h t (by simp [ht])]

theorem exec_congr {fr fr' : List AV} {V : List AO} {o : Oper} (h : ∀ t, .tmp t ∈ o.op.operands → lget fr t = lget fr' t) : exec A X M fr V o = exec A X M fr' V o := by
  have one : ∀ x, x ∈ o.op.operands → ov fr x = ov fr' x ∧ oo A fr x = oo A fr' x ∧ opd fr x = opd fr' x := fun x hx =>
    ⟨ov_congr fun t ht => h t (ht ▸ hx), oo_congr fun t ht => h t (ht ▸ hx), opd_congr fun t ht => h t (ht ▸ hx)⟩
  have many : ∀ l : List Operand, (∀ x, x ∈ l → x ∈ o.op.operands) → ovs fr l = ovs fr' l ∧ oos A fr l = oos A fr' l := fun l hl =>
    ⟨ovs_congr fun t ht => h t (hl _ ht), oos_congr fun t ht => h t (hl _ ht)⟩
  have opt : ∀ x : Option Operand, (∀ y, x = some y → y ∈ o.op.operands) → optInt fr x = optInt fr' x ∧ optO A fr x = optO A fr' x := by
    intro x hx
    cases x with
    | none => exact ⟨rfl, rfl⟩
    | some y => obtain ⟨h1, h2, h3⟩ := one y (hx y rfl); simp only [optInt, optO, h1, h2, and_self]
  have prs : ∀ ps : List (Nat × Operand), (∀ p, p ∈ ps → p.2 ∈ o.op.operands) → (ps.map fun p => (p.1, ov fr p.2)) = ps.map fun p => (p.1, ov fr' p.2) := fun ps hp =>
    List.map_congr_left fun p hm => by rw [(one p.2 (hp p hm)).1]
  cases hop : o.op with
  | build t ps =>
    have h1 := prs ps.toList (fun p hp => by simp [hop, Op.operands]; exact ⟨p.1, by simpa using hp⟩)
    have h2 := many (ps.toList.map (·.2)) (fun x hx => by simpa [hop, Op.operands] using hx)
    simp only [exec, hop, h1, h2.2]
  | buildSlice t n ps =>
    have h1 := prs ps.toList (fun p hp => by simp [hop, Op.operands]; exact ⟨p.1, by simpa using hp⟩)
    have h2 := many (ps.toList.map (·.2)) (fun x hx => by simpa [hop, Op.operands] using hx)
    simp only [exec, hop, buildSl, h1, h2.2]
  | call c =>
    have h1 := many c.args.toList (fun x hx => by simp [hop, Op.operands, Call.operands]; exact .inr (by simpa using hx))
    cases hc : c.callee with
    | value f =>
      have h2 := one f (by simp [hop, Op.operands, Call.operands, hc])
      simp only [exec, hop, hc, h1.1, h1.2, h2.1, h2.2.1]
    | invoke r m => simp only [exec, hop, hc]
    | builtin b => simp only [exec, hop, hc, execBuiltin, h1.1, h1.2]
  | defer c =>
    have h1 := many c.args.toList (fun x hx => by simp [hop, Op.operands, Call.operands]; exact .inr (by simpa using hx))
    cases hc : c.callee with
    | value f =>
      have h2 := one f (by simp [hop, Op.operands, Call.operands, hc])
      simp only [exec, hop, hc, h1.1, h1.2, h2.1, h2.2.1]
    | invoke r m => simp only [exec, hop, hc]
    | builtin b => simp only [exec, hop, hc]
  | makeFunc fn first cap =>
    have h1 := many first.toList (fun x hx => by simp [hop, Op.operands]; exact .inl (by simpa using hx))
    have h2 := many cap.toList (fun x hx => by simp [hop, Op.operands]; exact .inr (by simpa using hx))
    simp only [exec, hop, h1.1, h1.2, h2.1, h2.2]
  | makeMap t r => cases r <;> simp only [exec, hop]
  | slice t x lo hi mx =>
    have h1 := one x (by simp [hop, Op.operands])
    have h2 := opt lo (fun y hy => by simp [hop, Op.operands, hy])
    have h3 := opt hi (fun y hy => by simp [hop, Op.operands, hy])
    have h4 := opt mx (fun y hy => by simp [hop, Op.operands, hy])
    simp only [exec, hop, h1.1, h1.2.1, h2.1, h2.2, h3.1, h3.2, h4.1, h4.2]
  | pick c a b =>
    have h1 := one c (by simp [hop, Op.operands])
    have h2 := one a (by simp [hop, Op.operands])
    have h3 := one b (by simp [hop, Op.operands])
    simp only [exec, hop, h1.1, h1.2.1, h2.2.2, h3.2.2]
  | store t a v | binOp op t a v yt | makeSlice t a v | indexAddr t a v | index t a v =>
    have h1 := one a (by simp [hop, Op.operands])
    have h2 := one v (by simp [hop, Op.operands])
    simp only [exec, hop, h1.1, h1.2.1, h2.1, h2.2.1]
  | move x | assign x | box t x | load t x | nilCheck x | unOp u t x | convert s t x | makeInterface t x | fieldAddr t x f | field t x f | typeAssert x t u ok | extract x ix | panic x | sliceToArrayPointer t x =>
    have h1 := one x (by simp [hop, Op.operands])
    simp only [exec, hop, h1.1, h1.2.1]
  | _ => simp only [exec, hop]

theorem exec_V {fr : List AV} {V V1 V' : List AO} {o : Oper} {x : AV} {ob : List Bool} (hf : vfree X o = true) (h : exec A X M fr V o = .v x V' ob ∨ exec A X M fr V o = .el x V' ob) :
    exec A X M fr V1 o = .v x V1 ob ∨ exec A X M fr V1 o = .el x V1 ob := by
  have hO : ∀ {r : Option (AV × List Bool)} {o' : List Bool} {n : Nat}, (vO r V o' n = .v x V' ob ∨ vO r V o' n = .el x V' ob) → (vO r V1 o' n = .v x V1 ob ∨ vO r V1 o' n = .el x V1 ob) := by
    intro r o' n h
    rcases r with _ | ⟨y, o2⟩
    · rcases h with h | h <;> cases h
    · rcases h with h | h
      · cases h; exact .inl rfl
      · cases h
  have hE : ∀ {r : Option (AV × List Bool × Bool)} {o' : List Bool} {n : Nat}, (vE r V o' n = .v x V' ob ∨ vE r V o' n = .el x V' ob) → (vE r V1 o' n = .v x V1 ob ∨ vE r V1 o' n = .el x V1 ob) := by
    intro r o' n h
    rcases r with _ | ⟨y, o2, b⟩
    · rcases h with h | h <;> cases h
    · cases b <;> rcases h with h | h <;> cases h
      · exact .inl rfl
      · exact .inr rfl
  cases hop : o.op with
  | convert s t y =>
    simp only [vfree, hop] at hf
    split at hf
    · rename_i k hk
      simp only [exec, hop, hk] at h ⊢
      split
      · rename_i hkn
        rw [if_pos hkn] at h
        split
        · split at h
          · rcases h with h | h
            · cases h
              rename_i e1 e2
              first | (left; simp_all; done) | skip
              all_goals skip
            · cases h
          all_goals first | (rcases h with h | h <;> cases h; done) | simp_all
        all_goals first | (rcases h with h | h <;> cases h; done) | simp_all
      · rename_i hkn
        rw [if_neg hkn] at h
        rcases h with h | h <;> cases h
    · cases hf
  | index t y i =>
    simp only [exec, hop] at h ⊢
    split at h
    · exact hE h
    · rcases h with h | h <;> cases h
  | binOp b t y z yt =>
    simp only [exec, hop] at h ⊢
    split at h
    · rcases h with h | h <;> cases h
    · rename_i hn; rw [if_neg hn]; exact hO h
  | move y => simp only [exec, hop] at h ⊢; rcases h with h | h <;> cases h; exact .inl rfl
  | pick c a b =>
    simp only [exec, hop] at h ⊢
    split at h
    · rcases h with h | h <;> cases h; exact .inl rfl
    · rcases h with h | h <;> cases h
  | unOp u t y =>
    simp only [exec, hop] at h ⊢
    split at h <;> first
      | (rcases h with h | h <;> cases h; exact .inl rfl)
      | (rcases h with h | h <;> cases h; done)
  | field t y f =>
    simp only [exec, hop] at h ⊢
    split at h
    · rename_i hc
      rw [if_pos hc]
      split at h <;> first
        | (rcases h with h | h <;> cases h; exact .inl rfl)
        | (rcases h with h | h <;> cases h; done)
    · rcases h with h | h <;> cases h
  | extract y i =>
    simp only [exec, hop] at h ⊢
    split at h
    · split at h
      · rename_i hc
        rw [if_pos hc]
        rcases h with h | h <;> cases h; exact .inl rfl
      · rcases h with h | h <;> cases h
    · rcases h with h | h <;> cases h
  | makeInterface t y =>
    simp only [exec, hop] at h ⊢
    split at h
    · rename_i hc
      rw [if_pos hc]
      split at h
      · rcases h with h | h <;> cases h
      · rcases h with h | h <;> cases h; exact .inl rfl
    · rcases h with h | h <;> cases h
  | makeFunc fn a b =>
    simp only [exec, hop] at h ⊢
    split at h
    · rcases h with h | h <;> cases h; exact .inl rfl
    · rcases h with h | h <;> cases h
  | build t ps =>
    simp only [exec, hop] at h ⊢
    split at h
    · rename_i hc
      rw [if_pos hc]
      split at h
      · rcases h with h | h <;> cases h; exact .inl rfl
      · rcases h with h | h <;> cases h
    · rcases h with h | h <;> cases h
  | typeAssert y t u ok =>
    simp only [exec, hop] at h ⊢
    split at h
    · rename_i hc
      rw [if_pos hc]
      split at h <;> first
        | (rcases h with h | h <;> cases h; exact .inl rfl)
        | (rcases h with h | h <;> cases h; done)
        | (split at h
           all_goals first
             | (rename_i hq; rw [if_pos hq]; rcases h with h | h <;> cases h; exact .inl rfl)
             | (rename_i hq; rw [if_neg hq]; rcases h with h | h <;> cases h; exact .inl rfl)
             | (rcases h with h | h <;> cases h; done))
    · rcases h with h | h <;> cases h
  | _ => simp only [vfree, hop] at hf; cases hf

theorem calm_V {fr : List AV} {V V1 : List AO} {o : Oper} {x : AV} {ob : List Bool} (hc : calm M o = true) (h : exec A X M fr V o = .v x V1 ob) : V1 = V := by
  cases hop : o.op with
  | buildSlice t n ps =>
    simp only [calm, hop, beq_iff_eq] at hc
    simp only [exec, hop, buildSl, hc, newSl] at h
    repeat' first
      | (cases h; done)
      | (cases h; rfl)
      | split at h
  | convert s t y =>
    simp only [calm, hop, beq_iff_eq] at hc
    simp only [exec, hop, hc] at h
    repeat' first
      | (cases h; done)
      | (cases h; rfl)
      | split at h
  | makeSlice t n c =>
    simp only [calm, hop, beq_iff_eq] at hc
    simp only [exec, hop, hc] at h
    repeat' first
      | (cases h; done)
      | (cases h; rfl)
      | split at h
  | call c =>
    cases hb : c.callee with
    | builtin b =>
      obtain ⟨ce, ar, at_⟩ := c
      simp only at hb; subst hb
      cases b <;> simp only [calm, hop, pureOp] at hc <;> try (cases hc; done)
      all_goals
        simp only [exec, hop, execBuiltin] at h
        repeat' first
          | (cases h; done)
          | (cases h; rfl)
          | split at h
    | _ =>
      obtain ⟨ce, ar, at_⟩ := c
      simp only at hb; subst hb
      simp only [calm, hop, pureOp] at hc; cases hc
  | makeMap t r => simp only [calm, hop, pureOp] at hc; cases hc
  | typeAssert u a b ok =>
    simp only [exec, hop] at h
    repeat' first
      | (cases h; done)
      | (cases h; rfl)
      | split at h
  | _ =>
    first
    | (simp only [calm, hop, pureOp] at hc; cases hc; done)
    | (simp only [exec, hop] at h
       repeat' first
         | (cases h; done)
         | (cases h; rfl)
         | exact (vO_v h).choose_spec.2.1
         | exact (vE_ve (.inl h)).choose_spec.choose_spec.2.1
         | split at h)

theorem calm_V' {fr : List AV} {V V1 : List AO} {o : Oper} {x : AV} {ob : List Bool} (h : exec A X M fr V o = .el x V1 ob) : V1 = V := by
  cases hop : o.op with
  | call c =>
    obtain ⟨ce, ar, at_⟩ := c
    cases hb : ce with
    | builtin b =>
      subst hb
      exfalso
      simp only [exec, hop, execBuiltin] at h
      repeat' first
        | (cases h; done)
        | (unfold vV at h)
        | split at h
    | _ =>
      subst hb
      simp only [exec, hop] at h; cases h
  | makeMap t r => cases r <;> (simp only [exec, hop] at h; cases h)
  | _ =>
    simp only [exec, hop] at h
    repeat' first
      | (cases h; done)
      | exact (vO_el h).elim
      | exact (vE_ve (.inr h)).choose_spec.choose_spec.2.1
      | (unfold buildSl at h)
      | split at h

end
end Go.Sk
