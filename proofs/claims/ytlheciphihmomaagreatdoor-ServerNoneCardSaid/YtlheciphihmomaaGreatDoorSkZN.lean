/- Sk, part ZN: runs on values that are known: the stepper goes on by itself. -/
import Derived.Test.YtlheciphihmomaaGreatDoorSkZH
set_option linter.all false
namespace Go.Sk
open Go

mutual
def beqD : D → D → Bool
  | .bool a, .bool b => a == b
  | .int k n, .int k' n' => ikEq k k' && n == n'
  | .str a, .str b => a == b
  | .agg l, .agg m => beqDs l m
  | .arr n q, .arr n' q' => n == n' && beqQ q q'
  | .sl q, .sl q' => beqQ q q'
  | .slx q, .slx q' => beqQ q q'
  | .nils, .nils => true
  | .nilp, .nilp => true
  | .nilm, .nilm => true
  | .nilf, .nilf => true
  | .nili, .nili => true
  | .ifc t v, .ifc t' v' => t == t' && beqD v v'
  | .junk, .junk => true
  | _, _ => false
def beqDs : List D → List D → Bool
  | [], [] => true
  | x :: l, y :: m => beqD x y && beqDs l m
  | _, _ => false
def beqQ : Sq D → Sq D → Bool
  | .b l, .b m => l == m
  | .s l, .s m => l == m
  | .i k l, .i k' m => ikEq k k' && l == m
  | .g sh l, .g sh' m => beqSh sh sh' && beqDs l m
  | _, _ => false
def beqSh : Sh → Sh → Bool
  | .x, .x => true
  | .c, .c => true
  | .a l, .a m => beqShs l m
  | .ar n k b, .ar n' k' b' => n == n' && k == k' && b == b'
  | _, _ => false
def beqShs : List Sh → List Sh → Bool
  | [], [] => true
  | x :: l, y :: m => beqSh x y && beqShs l m
  | _, _ => false
end

mutual
theorem beqSh_eq : ∀ (a b : Sh), beqSh a b = true ↔ a = b
  | .x, b => by cases b <;> simp [beqSh]
  | .c, b => by cases b <;> simp [beqSh]
  | .a l, b => by cases b <;> simp [beqSh, beqShs_eq]
  | .ar n k s, b => by cases b <;> simp [beqSh, and_assoc]
theorem beqShs_eq : ∀ (a b : List Sh), beqShs a b = true ↔ a = b
  | [], b => by cases b <;> simp [beqShs]
  | x :: l, b => by cases b <;> simp [beqShs, beqSh_eq, beqShs_eq]
end

theorem ikEq_iff (a b : IntKind) : ikEq a b = true ↔ a = b := ⟨ikEq_eq, fun h => by subst h; cases a <;> rfl⟩

mutual
theorem beqD_eq : ∀ (a b : D), beqD a b = true ↔ a = b
  | .bool a, b => by cases b <;> simp [beqD]
  | .int k n, b => by cases b <;> simp [beqD, ikEq_iff]
  | .str a, b => by cases b <;> simp [beqD]
  | .agg l, b => by cases b <;> simp [beqD, beqDs_eq]
  | .arr n q, b => by cases b <;> simp [beqD, beqQ_eq]
  | .sl q, b => by cases b <;> simp [beqD, beqQ_eq]
  | .slx q, b => by cases b <;> simp [beqD, beqQ_eq]
  | .nils, b => by cases b <;> simp [beqD]
  | .nilp, b => by cases b <;> simp [beqD]
  | .nilm, b => by cases b <;> simp [beqD]
  | .nilf, b => by cases b <;> simp [beqD]
  | .nili, b => by cases b <;> simp [beqD]
  | .ifc t v, b => by cases b <;> simp [beqD, beqD_eq]
  | .junk, b => by cases b <;> simp [beqD]
theorem beqDs_eq : ∀ (a b : List D), beqDs a b = true ↔ a = b
  | [], b => by cases b <;> simp [beqDs]
  | x :: l, b => by cases b <;> simp [beqDs, beqD_eq, beqDs_eq]
theorem beqQ_eq : ∀ (a b : Sq D), beqQ a b = true ↔ a = b
  | .b l, b => by cases b <;> simp [beqQ]
  | .s l, b => by cases b <;> simp [beqQ]
  | .i k l, b => by cases b <;> simp [beqQ, ikEq_iff]
  | .g sh l, b => by cases b <;> simp [beqQ, beqSh_eq, beqDs_eq]
end

def beqPE : PE → PE → Bool
  | .f n, .f m => n == m
  | .i n, .i m => n == m
  | _, _ => false
def beqPEs : List PE → List PE → Bool
  | [], [] => true
  | x :: l, y :: m => beqPE x y && beqPEs l m
  | _, _ => false
theorem beqPE_eq (a b : PE) : beqPE a b = true ↔ a = b := by cases a <;> cases b <;> simp [beqPE]
theorem beqPEs_eq : ∀ (a b : List PE), beqPEs a b = true ↔ a = b
  | [], b => by cases b <;> simp [beqPEs]
  | x :: l, b => by cases b <;> simp [beqPEs, beqPE_eq, beqPEs_eq]

mutual
def beqA : AV → AV → Bool
  | .d x, .d y => beqD x y
  | .ptr r p, .ptr r' p' => r == r' && beqPEs p p'
  | .ep r g i p, .ep r' g' i' p' => r == r' && g == g' && i == i' && beqPEs p p'
  | .pd x p, .pd y p' => beqD x y && beqPEs p p'
  | .agg l, .agg m => beqAs l m
  | .tup l, .tup m => beqAs l m
  | .slt q r e, .slt q' r' e' => beqQ q q' && r == r' && e == e'
  | .msl r g o l, .msl r' g' o' l' => r == r' && g == g' && o == o' && l == l'
  | .asl r p lo hi, .asl r' p' lo' hi' => r == r' && beqPEs p p' && lo == lo' && hi == hi'
  | .map r, .map r' => r == r'
  | .fn f a c, .fn f' a' c' => f == f' && beqAs a a' && beqAs c c'
  | .yield r, .yield r' => r == r'
  | .ifc t v, .ifc t' v' => t == t' && beqA v v'
  | .gd c v, .gd c' v' => c == c' && beqA v v'
  | .gl g, .gl g' => g == g'
  | .undef, .undef => true
  | _, _ => false
def beqAs : List AV → List AV → Bool
  | [], [] => true
  | x :: l, y :: m => beqA x y && beqAs l m
  | _, _ => false
end

mutual
theorem beqA_eq : ∀ (a b : AV), beqA a b = true ↔ a = b
  | .d x, b => by cases b <;> simp [beqA, beqD_eq]
  | .ptr r p, b => by cases b <;> simp [beqA, beqPEs_eq]
  | .ep r g i p, b => by cases b <;> simp [beqA, beqPEs_eq, and_assoc]
  | .pd x p, b => by cases b <;> simp [beqA, beqD_eq, beqPEs_eq]
  | .agg l, b => by cases b <;> simp [beqA, beqAs_eq]
  | .tup l, b => by cases b <;> simp [beqA, beqAs_eq]
  | .slt q r e, b => by cases b <;> simp [beqA, beqQ_eq, and_assoc]
  | .msl r g o l, b => by cases b <;> simp [beqA, and_assoc]
  | .asl r p lo hi, b => by cases b <;> simp [beqA, beqPEs_eq, and_assoc]
  | .map r, b => by cases b <;> simp [beqA]
  | .fn f a c, b => by cases b <;> simp [beqA, beqAs_eq, and_assoc]
  | .yield r, b => by cases b <;> simp [beqA]
  | .ifc t v, b => by cases b <;> simp [beqA, beqA_eq]
  | .gd c v, b => by cases b <;> simp [beqA, beqA_eq]
  | .gl g, b => by cases b <;> simp [beqA]
  | .undef, b => by cases b <;> simp [beqA]
theorem beqAs_eq : ∀ (a b : List AV), beqAs a b = true ↔ a = b
  | [], b => by cases b <;> simp [beqAs]
  | x :: l, b => by cases b <;> simp [beqAs, beqA_eq, beqAs_eq]
end

/-- The arithmetic itself. -/
def Astd : Ari where
  len l := (l.length : Int)
  cut l lo hi := (l.take hi.toNat).drop lo.toNat
  get l i x := l.getD i.toNat x
  getb l i := ((l.getD i.toNat 0).toNat : Int)
  set l i x := l.set i.toNat x
  setb l i n := l.set i.toNat (UInt8.ofNat n.toNat)
  app l m := l ++ m
  rep n x := List.replicate n.toNat x
  ar := arStd
  cmp := cmpStd
  scmp := scmpStd
  conv k a := k.wrap a
  not b := !b
  and a b := a && b
  eqB a b := a == b
  pick c a b := bif c then a else b
  plus a b := a + b
  minus a b := a - b
  mn a b := if b < a then b else a
  mx a b := if b > a then b else a
  byt n := UInt8.ofNat n.toNat
  inb i n := decide (0 ≤ i) && decide (i < n)
  bnd lo hi n := decide (0 ≤ lo) && decide (lo ≤ hi) && decide (hi ≤ n)
  room n k := decide (n * k ≤ 2 ^ 47)
  nz n := !(n == 0)
  ge0 n := decide (0 ≤ n)
  eqI a b := a == b
  tt b := b
  imp b p := !b || p
  eqv := beqA
  len_eq _ := rfl
  cut_eq _ _ _ := rfl
  get_eq _ _ _ := rfl
  getb_eq _ _ := rfl
  set_eq _ _ _ := rfl
  setb_eq _ _ _ := rfl
  app_eq _ _ := rfl
  rep_eq _ _ := rfl
  ar_eq _ _ _ _ := rfl
  cmp_eq _ _ _ := rfl
  scmp_eq _ _ _ := rfl
  conv_eq _ _ := rfl
  not_eq _ := rfl
  and_eq _ _ := rfl
  eqB_eq _ _ := rfl
  pick_eq _ _ _ := rfl
  plus_eq _ _ := rfl
  minus_eq _ _ := rfl
  mn_eq _ _ := rfl
  mx_eq _ _ := rfl
  byt_eq _ := rfl
  inb_eq _ _ := by simp
  bnd_eq _ _ _ := by simp [and_assoc]
  room_eq _ _ := by simp
  nz_eq _ := by simp
  ge0_eq _ := by simp
  eqI_eq _ _ := by simp
  tt_eq _ := Iff.rfl
  imp_eq b p := by cases b <;> simp
  eqv_eq := beqA_eq

def allT : List Bool → Bool
  | [] => true
  | b :: l => b && allT l
theorem allT_ok : ∀ {l : List Bool}, allT l = true → Obl l
  | [], _ => trivial
  | b :: l, h => by simp only [allT, Bool.and_eq_true] at h; exact ⟨h.1, allT_ok h.2⟩

/-- What is told of a function. -/
structure Fi where
  C : Code
  n : Nat
  res : List ResultVar
  M : Mt

section
variable (A : Ari) (X : Tb) (S : FuncId → List AV → Option (AV × List Bool)) (T : FuncId → Option Fi)

def fin (fi : Fi) (s : St) : Option (AE × List AO) :=
  match s.df with
  | [] => match s.md with
    | .run => none
    | .ret => match resAVs A X s.fr s.V fi.res with
      | some (vs, o) => if allT o then some (.ret (resAV vs), s.V) else none
      | none => none
    | .pan ch => some (.pan ch, s.V)
  | _ => none

def notRun : AMode → Bool
  | .run => false
  | _ => true

mutual
def runA : Nat → FuncId → Fi → St → Option St
  | 0, _, _, _ => none
  | n + 1, F, fi, s =>
    match adv A X fi.M S F fi.C 100 s [] with
    | (z, ob) => match allT ob with
      | false => none
      | true => match z with
        | .more s => runA n F fi s
        | .cond b s1 s2 => match b with
          | true => runA n F fi s1
          | false => runA n F fi s2
        | .guard b s1 s2 => match b with
          | true => runA n F fi s1
          | false => runA n F fi s2
        | .loop s => match s.todo with
          | .loop p :: k => runA n F fi { s with todo := .c (p ++ [0]) :: .loop p :: k }
          | _ => none
        | .el s => runA n F fi s
        | .leave s => some s
        | .call f args dst s sp => match runV n f args s.V with
          | some (.ret v, V') => match isGd v with
            | false => runA n F fi { s with fr := put s.fr dst v, V := V' }
            | true => none
          | some (.pan ch, V') => runA n F fi { sp with V := V', md := .pan ch }
          | none => none
        | .dcall (.fn g a c) args s => match T g with
          | some gi => match noGds (a ++ args ++ c), runA n g gi { start (a ++ args ++ c) gi.n s.V with cm := some s.md } with
            | true, some s2 => match s2.cm, fin A X gi s2 with
              | some m1, some (e, V') =>
                match notRun (afterD m1 e) with
                | true => runA n F fi { s with V := V', md := afterD m1 e }
                | false => none
              | _, _ => none
            | _, _ => none
          | none => none
        | .rfun f r s => match s.todo with
          | .rf r' :: k => match r == r', runV n f [.yield r] s.V with
            | true, some (.ret _, V') => runA n F fi { s with todo := .erf r :: k, V := V' }
            | true, some (.pan ch, V') => runA n F fi { s with V := V', md := .pan ch }
            | _, _ => none
          | _ => none
        | _ => none
def runV : Nat → AV → List AV → List AO → Option (AE × List AO)
  | 0, _, _, _ => none
  | n + 1, f, args, V => match f with
    | .fn g a c => match T g with
      | some gi => match noGds (a ++ args ++ c), runA n g gi (start (a ++ args ++ c) gi.n V) with
        | true, some s2 => match s2.cm with
          | none => fin A X gi s2
          | some _ => none
        | _, _ => none
      | none => none
    | .yield r => match lget V r with
      | .loop L => match T L.fn with
        | some gi => match noGds args && llen args == llen L.ps, runA n L.fn gi (startR L r args V) with
          | true, some s2 => match s2.df, s2.cm, s2.md, s2.todo, s2.ro with
            | [], none, .run, [.rend j], some r' => match r' == r, lget s2.V r with
              | true, .loop L' => some (.ret (.d (.bool j.isNone)), lset s2.V r (.loop { L' with state := if j.isNone then .ready else .done, pend := j }))
              | _, _ => none
            | [], none, .pan ch, _, some r' => match r' == r with
              | true => some (.pan ch, s2.V)
              | false => none
            | _, _, _, _, _ => none
          | _, _ => none
        | none => none
      | _ => none
    | _ => none
end
end

/-- The functions are the program's. -/
structure TOK (X : Tb) (P : Program) (S : FuncId → List AV → Option (AV × List Bool)) (T : FuncId → Option Fi) : Prop where
  fn : ∀ g gi, T g = some gi → ∃ fn, P.funcs[g]? = some fn ∧ fn.body = some gi.C ∧ fn.ntmps = gi.n ∧ fn.results.toList = gi.res ∧ (fn.name == "runtime.NumGoroutine") = false
  good : ∀ g gi, T g = some gi → goodC X gi.M gi.C = true

def FiOK (X : Tb) (P : Program) (g : FuncId) (gi : Fi) : Prop :=
  ∃ fn, P.funcs[g]? = some fn ∧ fn.body = some gi.C ∧ fn.ntmps = gi.n ∧ fn.results.toList = gi.res ∧ (fn.name == "runtime.NumGoroutine") = false ∧ goodC X gi.M gi.C = true

def look (l : List (Nat × Fi)) (g : FuncId) : Option Fi :=
  match l with
  | [] => none
  | x :: r => match x.1 == g with
    | true => some x.2
    | false => look r g

theorem look_mem : ∀ {l : List (Nat × Fi)} {g : FuncId} {gi : Fi}, look l g = some gi → (g, gi) ∈ l
  | [], g, gi, h => by simp [look] at h
  | x :: r, g, gi, h => by
    unfold look at h
    split at h
    · rename_i he
      simp only [beq_iff_eq] at he
      cases h
      rw [← he]; exact List.mem_cons_self ..
    · exact List.mem_cons_of_mem _ (look_mem h)

theorem TOK.of {X : Tb} {P : Program} {S : FuncId → List AV → Option (AV × List Bool)} {l : List (Nat × Fi)} (h : ∀ x, x ∈ l → FiOK X P x.1 x.2) : TOK X P S (look l) :=
  ⟨fun g gi hg => let ⟨fn, h1, h2, h3, h4, h5, _⟩ := h _ (look_mem hg); ⟨fn, h1, h2, h3, h4, h5⟩, fun g gi hg => let ⟨_, _, _, _, _, _, h6⟩ := h _ (look_mem hg); h6⟩

section
variable {A : Ari} {X : Tb} {P : Program} {S : FuncId → List AV → Option (AV × List Bool)} {T : FuncId → Option Fi}

theorem TOK.known (hT : TOK X P S T) (hX : TbOK X P) (hS : SumOK X P S) (hm : P.follows .mixedOrders = true) {g : FuncId} {gi : Fi} (h : T g = some gi) : Known X P gi.M S g gi.C := by
  obtain ⟨fn, h1, h2, h3, h4, h5⟩ := hT.fn g gi h
  exact ⟨hX, hS, hm, by simp [codeOf, h1, h2], GoodC.of (hT.good g gi h)⟩

theorem TOK.body (hT : TOK X P S T) {g : FuncId} {gi : Fi} (h : T g = some gi) : bodyOK P g := by
  obtain ⟨fn, h1, h2, h3, h4, h5⟩ := hT.fn g gi h
  exact ⟨fn, h1, by rw [h2]; rfl, h5⟩

theorem fin_ok {fn : Func} {gi : Fi} (hr : fn.results.toList = gi.res) {s : St} {e : AE} {V' : List AO} (h : fin A X gi s = some (e, V')) {Φ : AE → List AO → Prop} (hΦ : Φ e V') : EndS A X fn s Φ := by
  unfold fin at h
  split at h
  · rename_i hdf
    refine ⟨hdf, ?_⟩
    split at h
    · cases h
    · rename_i hmd
      rw [hmd]
      split at h
      · rename_i vs o hres
        split at h
        · rename_i ho
          cases h
          exact ⟨vs, o, by rw [hr]; exact hres, allT_ok ho, hΦ⟩
        · cases h
      · cases h
    · rename_i ch hmd
      rw [hmd]
      cases h
      exact hΦ
  · cases h

theorem run_ok (hT : TOK X P S T) (hX : TbOK X P) (hS : SumOK X P S) (hm : P.follows .mixedOrders = true) : ∀ (n : Nat),
    (∀ F fi s s', T F = some fi → runA A X S T n F fi s = some s' → AW X P A fi.M F fi.C s (· = s')) ∧
    (∀ f args V e V', runV A X S T n f args V = some (e, V') → Does X P f args V fun e' V'' => e' = e ∧ V'' = V')
  | 0 => ⟨fun F fi s s' _ h => by simp [runA] at h, fun f args V e V' h => by simp [runV] at h⟩
  | n + 1 => by
    obtain ⟨ihA, ihV⟩ := run_ok hT hX hS hm n
    refine ⟨fun F fi s s' hF h => ?_, fun f args V e V' h => ?_⟩
    · have hsound := sound (A := A) (hT.known hX hS hm hF)
      simp only [runA] at h
      cases hadv : adv A X fi.M S F fi.C 100 s [] with
      | mk z ob =>
      rw [hadv] at h
      simp only at h
      cases hob : allT ob with
      | false => rw [hob] at h; cases h
      | true =>
      rw [hob] at h
      simp only at h
      refine adv_ok hsound 100 s [] z ob hadv (allT_ok hob) ?_
      have cont : ∀ {s1}, runA A X S T n F fi s1 = some s' → AW X P A fi.M F fi.C s1 (· = s') := fun h => ihA F fi _ s' hF h
      cases z with
      | more s1 => exact cont h
      | stuck => cases h
      | mp => cases h
      | cond b s1 s2 =>
        cases b with
        | false => exact ⟨fun hb => (by cases hb), fun _ => cont h⟩
        | true => exact ⟨fun _ => cont h, fun hb => (by cases hb)⟩
      | guard b s1 s2 =>
        cases b with
        | false => exact ⟨fun hb => (by cases hb), fun _ => cont h⟩
        | true => exact ⟨fun _ => cont h, fun hb => (by cases hb)⟩
      | loop s1 =>
        simp only at h
        split at h
        · rename_i p k htd
          simp only [Pz.ok, htd]; exact cont h
        · cases h
      | el s1 => exact cont h
      | leave s1 => cases h; rfl
      | call f args dst s1 sp =>
        simp only at h
        split at h
        · rename_i v V' hv
          split at h
          · rename_i hgd
            refine ⟨_, ihV f args s1.V _ _ hv, fun e' V'' he => ?_⟩
            obtain ⟨rfl, rfl⟩ := he
            exact ⟨hgd, cont h⟩
          · cases h
        · rename_i ch V' hv
          refine ⟨_, ihV f args s1.V _ _ hv, fun e' V'' he => ?_⟩
          obtain ⟨rfl, rfl⟩ := he
          exact cont h
        · cases h
      | dcall f args s1 =>
        cases f <;> simp only at h <;> try (cases h; done)
        rename_i g a c
        split at h
        · rename_i gi hg
          split at h
          · rename_i s2 hgd hrun
            split at h
            · rename_i m1 e V' hcm hfin
              split at h
              · rename_i hnr
                obtain ⟨fn, h1, h2, h3, h4, h5⟩ := hT.fn g gi hg
                refine ⟨fun V'' m' => V'' = V' ∧ m' = afterD m1 e, hT.body hg, ?_, fun V'' m' he => ?_⟩
                · refine RunsD.of (A := A) (M := gi.M) hX h1 h2 hgd ?_
                  rw [h3]
                  refine (ihA g gi _ _ hg hrun).mono fun s3 hs3 => ?_
                  subst hs3
                  exact ⟨m1, hcm, fin_ok h4 hfin ⟨rfl, rfl⟩⟩
                · obtain ⟨rfl, rfl⟩ := he
                  refine ⟨fun hq => ?_, cont h⟩
                  rw [hq] at hnr; cases hnr
              · cases h
            · cases h
          · cases h
        · cases h
      | rfun f r s1 =>
        simp only at h
        split at h
        · rename_i r' k htd
          split at h
          · rename_i v V' hr hv
            simp only [beq_iff_eq] at hr; subst hr
            refine ⟨_, k, htd, ihV f _ s1.V _ _ hv, fun e' V'' he => ?_⟩
            obtain ⟨rfl, rfl⟩ := he
            exact cont h
          · rename_i ch V' hr hv
            simp only [beq_iff_eq] at hr; subst hr
            refine ⟨_, k, htd, ihV f _ s1.V _ _ hv, fun e' V'' he => ?_⟩
            obtain ⟨rfl, rfl⟩ := he
            exact cont h
          · cases h
        · cases h
    · simp only [runV] at h
      cases f with
      | fn g a c =>
        simp only at h
        split at h
        · rename_i gi hg
          split at h
          · rename_i s2 hgd hrun
            split at h
            · rename_i hcm
              obtain ⟨fn, h1, h2, h3, h4, h5⟩ := hT.fn g gi hg
              refine Runs.does (hT.body hg) (Runs.of (A := A) (M := gi.M) hX h1 h2 hgd ?_)
              rw [h3]
              refine (ihA g gi _ _ hg hrun).mono fun s3 hs3 => ?_
              subst hs3
              exact ⟨hcm, fin_ok h4 h ⟨rfl, rfl⟩⟩
            · cases h
          · cases h
        · cases h
      | yield r =>
        simp only at h
        split at h
        · rename_i L hV
          split at h
          · rename_i gi hg
            split at h
            · rename_i s2 hgd hrun
              simp only [Bool.and_eq_true, beq_iff_eq, llen_eq] at hgd
              have hcode : codeOf P L.fn = some gi.C := by obtain ⟨fn, h1, h2, _⟩ := hT.fn _ _ hg; simp [codeOf, h1, h2]
              refine Does.round (A := A) (M := gi.M) hV hgd.2 hgd.1 hcode ?_
              refine (ihA L.fn gi _ _ hg hrun).mono fun s3 hs3 => ?_
              subst hs3
              split at h
              · rename_i j r' hdf hcm hmd htd hro
                split at h
                · rename_i L' hr hV'
                  simp only [beq_iff_eq] at hr; subst hr
                  cases h
                  refine ⟨hdf, hcm, hro, ?_⟩
                  rw [hmd]
                  exact ⟨j, L', htd, hV', rfl, rfl⟩
                · cases h
              · rename_i ch r' hdf hcm hmd hro
                split at h
                · rename_i hr
                  simp only [beq_iff_eq] at hr; subst hr
                  cases h
                  refine ⟨hdf, hcm, hro, ?_⟩
                  rw [hmd]
                  exact ⟨rfl, rfl⟩
                · cases h
              · cases h
            · cases h
          · cases h
        · cases h
      | _ => simp only at h; cases h

end
end Go.Sk
