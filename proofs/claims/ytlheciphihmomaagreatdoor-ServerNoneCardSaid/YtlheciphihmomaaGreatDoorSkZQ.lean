/- Sk, part ZQ: runs on values that are known in part: where a script says so, both ways of a branch are gone. -/
import Derived.Test.YtlheciphihmomaaGreatDoorSkZP
set_option linter.all false
namespace Go.Sk
open Go

/-- A value at which the test fails, if there is one: what holds of it holds of all. -/
noncomputable def wit {α : Type} [Nonempty α] (f : α → Bool) : α := Classical.epsilon fun x => f x = false

theorem wit_all {α : Type} [Nonempty α] {f : α → Bool} (h : f (wit f) = true) (x : α) : f x = true := by
  cases hx : f x with
  | true => rfl
  | false =>
    have := Classical.epsilon_spec (p := fun x => f x = false) ⟨x, hx⟩
    rw [show Classical.epsilon (fun x => f x = false) = wit f from rfl, h] at this
    cases this

section
variable (A : Ari) (X : Tb) (S : FuncId → List AV → Option (AV × List Bool)) (T : FuncId → Option Fi) (ok : AE → List AO → Bool)

/-- All ends are good. -/
def symA : Nat → List Bool → FuncId → Fi → St → Bool
  | 0, _, _, _, _ => false
  | n + 1, sc, F, fi, s =>
    match adv A X fi.M S F fi.C 100 s [] with
    | (z, ob) => match allT ob with
      | false => false
      | true => match z with
        | .more s => symA n sc F fi s
        | .cond b s1 s2 => match sc with
          | true :: sc => match symA n sc F fi s1 with
            | true => symA n sc F fi s2
            | false => false
          | false :: sc => match b with
            | true => symA n sc F fi s1
            | false => symA n sc F fi s2
          | [] => match b with
            | true => symA n [] F fi s1
            | false => symA n [] F fi s2
        | .guard b s1 s2 => match sc with
          | true :: sc => match symA n sc F fi s1 with
            | true => symA n sc F fi s2
            | false => false
          | false :: sc => match b with
            | true => symA n sc F fi s1
            | false => symA n sc F fi s2
          | [] => match b with
            | true => symA n [] F fi s1
            | false => symA n [] F fi s2
        | .loop s => match s.todo with
          | .loop p :: k => symA n sc F fi { s with todo := .c (p ++ [0]) :: .loop p :: k }
          | _ => false
        | .el s => symA n sc F fi s
        | .leave s => match s.cm with
          | none => match fin A X fi s with
            | some (e, V) => ok e V
            | none => false
          | some _ => false
        | .call f args dst s sp => match runV A X S T n f args s.V with
          | some (.ret v, V') => match isGd v with
            | false => symA n sc F fi { s with fr := put s.fr dst v, V := V' }
            | true => false
          | some (.pan ch, V') => symA n sc F fi { sp with V := V', md := .pan ch }
          | none => false
        | _ => false
end

section
variable {A : Ari} {X : Tb} {P : Program} {S : FuncId → List AV → Option (AV × List Bool)} {T : FuncId → Option Fi} {ok : AE → List AO → Bool}

theorem sym_ok (hT : TOK X P S T) (hX : TbOK X P) (hS : SumOK X P S) (hm : P.follows .mixedOrders = true) {F : FuncId} {fi : Fi} (hF : T F = some fi) {fn : Func} (hr : fn.results.toList = fi.res) :
    ∀ (n : Nat) (sc : List Bool) (s : St), symA A X S T ok n sc F fi s = true → AW X P A fi.M F fi.C s fun s => s.cm = none ∧ EndS A X fn s fun e V => ok e V = true
  | 0, sc, s, h => by simp [symA] at h
  | n + 1, sc, s, h => by
    have hsound := sound (A := A) (hT.known hX hS hm hF)
    simp only [symA] at h
    cases hadv : adv A X fi.M S F fi.C 100 s [] with
    | mk z ob =>
    rw [hadv] at h
    simp only at h
    cases hob : allT ob with
    | false => rw [hob] at h; cases h
    | true =>
    rw [hob] at h
    simp only at h
    refine adv_ok hsound 100 s [] z ob hadv (allT_ok hob) ?_
    have cont := sym_ok hT hX hS hm hF hr n
    cases z with
    | more s1 => exact cont _ _ h
    | stuck => cases h
    | mp => cases h
    | cond b s1 s2 =>
      simp only at h
      split at h
      · split at h
        · rename_i h1; exact ⟨fun _ => cont _ _ h1, fun _ => cont _ _ h⟩
        · cases h
      · cases b with
        | false => exact ⟨fun hb => (by cases hb), fun _ => cont _ _ h⟩
        | true => exact ⟨fun _ => cont _ _ h, fun hb => (by cases hb)⟩
      · cases b with
        | false => exact ⟨fun hb => (by cases hb), fun _ => cont _ _ h⟩
        | true => exact ⟨fun _ => cont _ _ h, fun hb => (by cases hb)⟩
    | guard b s1 s2 =>
      simp only at h
      split at h
      · split at h
        · rename_i h1; exact ⟨fun _ => cont _ _ h1, fun _ => cont _ _ h⟩
        · cases h
      · cases b with
        | false => exact ⟨fun hb => (by cases hb), fun _ => cont _ _ h⟩
        | true => exact ⟨fun _ => cont _ _ h, fun hb => (by cases hb)⟩
      · cases b with
        | false => exact ⟨fun hb => (by cases hb), fun _ => cont _ _ h⟩
        | true => exact ⟨fun _ => cont _ _ h, fun hb => (by cases hb)⟩
    | loop s1 =>
      simp only at h
      split at h
      · rename_i p k htd
        simp only [Pz.ok, htd]; exact cont _ _ h
      · cases h
    | el s1 => exact cont _ _ h
    | leave s1 =>
      simp only at h
      split at h
      · rename_i hcm
        split at h
        · rename_i e V hfin
          exact ⟨hcm, fin_ok hr hfin h⟩
        · cases h
      · cases h
    | call f args dst s1 sp =>
      simp only at h
      split at h
      · rename_i v V' hv
        split at h
        · rename_i hgd
          refine ⟨_, (run_ok hT hX hS hm n).2 f args s1.V _ _ hv, fun e' V'' he => ?_⟩
          obtain ⟨rfl, rfl⟩ := he
          exact ⟨hgd, cont _ _ h⟩
        · cases h
      · rename_i ch V' hv
        refine ⟨_, (run_ok hT hX hS hm n).2 f args s1.V _ _ hv, fun e' V'' he => ?_⟩
        obtain ⟨rfl, rfl⟩ := he
        exact cont _ _ h
      · cases h
    | dcall f args s1 => cases h
    | rfun f r s1 => cases h

/-- A function's run, known in part. -/
theorem Runs.sym (hT : TOK X P S T) (hX : TbOK X P) (hS : SumOK X P S) (hm : P.follows .mixedOrders = true) {F : FuncId} {fi : Fi} (hF : T F = some fi) {args : List AV} (hg : noGds args = true) {V : List AO} (n : Nat) (sc : List Bool)
    (h : symA A X S T ok n sc F fi (start args fi.n V) = true) : Runs X P F args V fun e V => ok e V = true := by
  obtain ⟨fn, h1, h2, h3, h4, h5⟩ := hT.fn F fi hF
  refine Runs.of (A := A) (M := fi.M) hX h1 h2 hg ?_
  rw [h3]
  exact sym_ok hT hX hS hm hF h4 n sc _ h
end
end Go.Sk
