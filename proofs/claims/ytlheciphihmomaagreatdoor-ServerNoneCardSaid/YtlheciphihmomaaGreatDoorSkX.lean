/- Sk, part X: states of the stepper and of the machine; what a state reaches. -/
import Derived.Test.YtlheciphihmomaaGreatDoorSkW
set_option linter.all false
namespace Go.Sk
open Go

section
variable (X : Tb) (P : Program) (A : Ari) (M : Mt) (F : FuncId) (C : Code)

inductive ItR (E : Env) : It → Item → Prop
  | c {p c} (h : sub p C = some c) : ItR E (.c p) (.code c)
  | blk {id} : ItR E (.blk id) (.inBlock id)
  | loop {p c} (h : sub p C = some (.loop c)) : ItR E (.loop p) (.inLoop c)
  | scope {p c} (h : sub p C = some (.scope c)) : ItR E (.scope p) (.inScope c)
  | ops {p id ops l idx} (h : sub p C = some (.region id ops false)) (hl : l = idx.map .o) : ItR E (.ops p l) (.inRegion ops idx)
  | rf {r b} (h : E.ρ[r]? = some (.loop b)) : ItR E (.rf r) (.inRangeFunc b)
  | erf {r b} (h : E.ρ[r]? = some (.loop b)) : ItR E (.erf r) (.endRangeFunc b)
  | beg : ItR E .beg .beginRound

def ItsR (E : Env) : List It → List Item → Prop
  | [], l => l = []
  | x :: r, l => ∃ y k, l = y :: k ∧ ItR C E x y ∧ ItsR E r k

/-- Temporaries, those of pd left open. -/
def FrX (E : Env) (fr : List AV) (tmps : Array Value) (pd : List Nat) : Prop :=
  tmps.size = fr.length ∧ ∀ i, i < fr.length → mem i pd = false → RV X E (lget fr i) (tmps.getD i undef)

/-- A calm operation that the stepper has told, and that the machine may not have carried out. -/
def PendOK (fr : List AV) (V : List AO) (ops : List Oper) (o : Oper) (free : Prop) : Prop :=
  ∃ r, wantedOf A fr ops o = some r ∧
    (∀ t, o.dst = some t → t < fr.length → (r = none ∧ isGd (lget fr t) = false) ∨ (∃ c, r = some c ∧ ((∃ u, lget fr t = .gd c u) ∨ (c = true ∧ isGd (lget fr t) = false)))) ∧
    (free ∨ (r.getD true = true → ∃ x V' ob, (exec A X M fr V o = .v x V' ob ∨ exec A X M fr V o = .el x V' ob) ∧ Obl ob ∧ isGd x = false ∧ ∀ t, o.dst = some t → t < fr.length → strip (lget fr t) = x))

/-- A region whose order was drawn: what the stepper has done, what the machine has done of that. -/
structure DrR (E : Env) (fr : List AV) (V : List AO) (l : List Sx) (ops : Array Oper) (tmps : Array Value) (L done D : List Nat) : Prop where
  stat : allB (fun jo : Nat × Oper => statO M ops.toList jo.1 jo.2) (zipI 0 ops.toList) = true
  good : goodGo X M ops.toList l done = true
  sub : ∀ i, i ∈ D → i ∈ done
  cov : ∀ i, i < ops.size → i ∈ D ∨ i ∈ L
  rest : ∀ i, i ∈ L → i < ops.size ∧ i ∉ D
  nod : L.Nodup
  topo : ∀ L1 j L2, L = L1 ++ j :: L2 → ∀ o, ops[j]? = some o → ∀ d, d ∈ depsOf o → d ∈ D ∨ d ∈ L1
  dd : ∀ i, i ∈ done → i < ops.size
  dc : ∀ i o, i ∈ done → ops[i]? = some o → ∀ d, d ∈ depsOf o → d ∈ done
  Dc : ∀ i o, i ∈ D → ops[i]? = some o → ∀ d, d ∈ depsOf o → d ∈ D
  pend : ∀ j o, j ∈ done → j ∉ D → ops[j]? = some o → calm M o = true ∧ PendOK X A M fr V ops.toList o (j ∈ lead l)
  size : tmps.size = fr.length
  tm : ∀ t, t < fr.length → (∀ j o, j ∈ done → j ∉ D → ops[j]? = some o → o.dst ≠ some t) → RV X E (lget fr t) (tmps.getD t undef)

def DfR (E : Env) : AD → Deferred → Prop
  | .col r, d => ∃ b, E.ρ[r]? = some (.dfr b) ∧ d.target = .collected b ∧ d.args = #[]
  | .call f args, d => ∃ v ys d0, RV0 X E f v ∧ RVs X E args ys ∧ (∀ w, (Deferred.ofValue v ys.toArray).run P w = .ok d0 w) ∧ d = d0

def DfsR (E : Env) : List AD → List Deferred → Prop
  | [], l => l = []
  | x :: r, l => ∃ y k, l = y :: k ∧ DfR X P E x y ∧ DfsR E r k

def ChR (E : Env) : List (AV × Bool) → List PanicEntry → Prop
  | [], l => l = []
  | x :: r, l => ∃ y k, l = y :: k ∧ RV0 X E x.1 y.v ∧ y.recovered = x.2 ∧ y.goexit = false ∧ ChR E r k

def MdR (E : Env) : AMode → FrameMode → Prop
  | .run, m => m = .run
  | .ret, m => m = .returning
  | .pan ch, m => ∃ l, m = .panicking l ∧ ChR X E ch l

def deog : List Sx → List Sx
  | .og i :: l => .o i :: l
  | .ng i an pn :: l => .n i an pn :: l
  | l => l

/-- A round's end, with the jump that is left pending. -/
def RendR (real : List Item) : Option AJ → Prop
  | none => real = []
  | some .ret => ∃ k, real = .code .ret :: k
  | some (.exit id) => ∃ k, real = .code (.exit id) :: k ∧ exitTo id k = none
  | some (.goto l) => ∃ k, real = .code (.goto l) :: k ∧ gotoIn l k = none

/-- What is still to do, where the machine runs. -/
inductive TodoR (E : Env) (fr0 : List AV) (V : List AO) (todo : List It) (tmps : Array Value) (real : List Item) : Prop
  | plain (hf : FrX X E fr0 tmps []) (ht : ItsR C E todo real)
  | og {p i l idx k k' id ops o} (hf : FrX X E fr0 tmps []) (ht : todo = .ops p (.og i :: l) :: k) (hr : real = .inRegion ops (i :: idx) :: k') (hs : sub p C = some (.region id ops false)) (hl : l = idx.map .o)
      (ho : ops[i]? = some o) (hw : Region.wanted o (yielded ops tmps) = true) (hk : ItsR C E k k')
  | dr {p l k k' id ops L done D} (ht : todo = .ops p l :: k) (hr : real = .inRegion ops L :: k') (hs : sub p C = some (.region id ops true)) (hk : ItsR C E k k')
      (hd : DrR X A M E fr0 V (deog l) ops tmps L done D)
      (hog : ∀ i rest, l = .og i :: rest → ∃ o c, ops[i]? = some o ∧ wantedOf A fr0 ops.toList o = some (some c) ∧ c = true)
      (hng : ∀ i an pn rest, l = .ng i an pn :: rest → ∃ L' o, L = i :: L' ∧ ops[i]? = some o ∧ Region.wanted o (yielded ops tmps) = true)
  | rend {j} (hf : FrX X E fr0 tmps []) (ht : todo = [.rend j])
      (hr : RendR real j)

structure StR (E : Env) (s : St) (fr : Frame) (cs0 cs : List Frame) : Prop where
  fn : fr.fn = F
  md : MdR X E s.md fr.mode
  todo : match s.md with | .run => TodoR X A M C E s.fr s.V s.todo fr.tmps fr.todo | _ => FrX X E s.fr fr.tmps []
  df : DfsR X P E s.df fr.defers
  ro : match s.ro with | none => fr.roundOf = none | some r => ∃ l, fr.roundOf = some l ∧ E.ρ[r]? = some (.loop l)
  cm : match s.cm with | none => fr.kind = .normal ∧ cs = cs0 | some m => fr.kind = .deferred ∧ ∃ c k m', cs0 = c :: k ∧ cs = { c with mode := m' } :: k ∧ MdR X E m m'

/-- A state reaches a state of Φ, whatever the machine's state that it stands for. -/
def AW (s : St) (Φ : St → Prop) : Prop :=
  ∀ E fr cs0 cs w, Inv X P E s.V w → StR X P A M F C E s fr cs0 cs →
    ∃ s' E' fr' cs' w', Φ s' ∧ Steps P (lone fr cs w) (lone fr' cs' w') ∧ Inv X P E' s'.V w' ∧ StR X P A M F C E' s' fr' cs0 cs' ∧ Ext E w E' w' ∧ fr'.kind = fr.kind ∧ fr'.roundOf = fr.roundOf
end

section
variable {X : Tb} {P : Program} {A : Ari} {M : Mt} {F : FuncId} {C : Code}

theorem AW.refl {s : St} {Φ : St → Prop} (h : Φ s) : AW X P A M F C s Φ :=
  fun E fr cs0 cs w hi hs => ⟨s, E, fr, cs, w, h, .refl P _, hi, hs, .refl E w, rfl, rfl⟩

theorem AW.trans {s : St} {Φ Ψ : St → Prop} (h : AW X P A M F C s Φ) (h' : ∀ s', Φ s' → AW X P A M F C s' Ψ) : AW X P A M F C s Ψ := by
  intro E fr cs0 cs w hi hs
  obtain ⟨s1, E1, fr1, cs1, w1, hp, hst, hi1, hs1, he1, hk1, hr1⟩ := h E fr cs0 cs w hi hs
  obtain ⟨s2, E2, fr2, cs2, w2, hp2, hst2, hi2, hs2, he2, hk2, hr2⟩ := h' s1 hp E1 fr1 cs0 cs1 w1 hi1 hs1
  exact ⟨s2, E2, fr2, cs2, w2, hp2, hst.trans hst2, hi2, hs2, he1.trans he2, hk2.trans hk1, hr2.trans hr1⟩

theorem AW.mono {s : St} {Φ Ψ : St → Prop} (h : AW X P A M F C s Φ) (h' : ∀ s', Φ s' → Ψ s') : AW X P A M F C s Ψ :=
  h.trans fun s' hs' => .refl (h' s' hs')

/-! ### Growth -/
theorem ItR.mono {E E' : Env} (h : E.le E') {x : It} {y : Item} (hr : ItR C E x y) : ItR C E' x y := by
  cases hr with
  | c h1 => exact .c h1
  | blk => exact .blk
  | loop h1 => exact .loop h1
  | scope h1 => exact .scope h1
  | ops h1 h2 => exact .ops h1 h2
  | rf h1 => obtain ⟨g, hg, hle⟩ := h.ρ _ _ h1; simp only [Gh.le] at hle; subst hle; exact .rf hg
  | erf h1 => obtain ⟨g, hg, hle⟩ := h.ρ _ _ h1; simp only [Gh.le] at hle; subst hle; exact .erf hg
  | beg => exact .beg

theorem ItsR.mono {E E' : Env} (h : E.le E') : ∀ {x : List It} {y : List Item}, ItsR C E x y → ItsR C E' x y
  | [], _, hr => hr
  | _ :: _, _, ⟨y, k, h1, h2, h3⟩ => ⟨y, k, h1, h2.mono h, h3.mono h⟩

theorem FrX.mono {E E' : Env} (h : E.le E') {fr : List AV} {tmps : Array Value} {pd : List Nat} (hr : FrX X E fr tmps pd) : FrX X E' fr tmps pd :=
  ⟨hr.1, fun i hi hp => RV.mono h (hr.2 i hi hp)⟩

theorem DfR.mono {E E' : Env} (h : E.le E') {x : AD} {y : Deferred} (hr : DfR X P E x y) : DfR X P E' x y := by
  cases x with
  | col r => obtain ⟨b, h1, h2⟩ := hr; obtain ⟨g, hg, hle⟩ := h.ρ _ _ h1; simp only [Gh.le] at hle; subst hle; exact ⟨b, hg, h2⟩
  | call f args => obtain ⟨v, ys, d0, h1, h2, h3⟩ := hr; exact ⟨v, ys, d0, RV0.mono h h1, RVs.mono h _ _ h2, h3⟩

theorem DfsR.mono {E E' : Env} (h : E.le E') : ∀ {x : List AD} {y : List Deferred}, DfsR X P E x y → DfsR X P E' x y
  | [], _, hr => hr
  | _ :: _, _, ⟨y, k, h1, h2, h3⟩ => ⟨y, k, h1, h2.mono h, h3.mono h⟩

theorem ChR.mono {E E' : Env} (h : E.le E') : ∀ {x : List (AV × Bool)} {y : List PanicEntry}, ChR X E x y → ChR X E' x y
  | [], _, hr => hr
  | _ :: _, _, ⟨y, k, h1, h2, h3, h4, h5⟩ => ⟨y, k, h1, RV0.mono h h2, h3, h4, h5.mono h⟩

theorem MdR.mono {E E' : Env} (h : E.le E') {x : AMode} {y : FrameMode} (hr : MdR X E x y) : MdR X E' x y := by
  cases x with
  | run => exact hr
  | ret => exact hr
  | pan ch => obtain ⟨l, h1, h2⟩ := hr; exact ⟨l, h1, h2.mono h⟩

/-! ### Jumps -/
theorem exit_ok {E : Env} {id : Nat} : ∀ {x x' : List It} {y : List Item}, ItsR C E x y → exitIt id x = some x' → ∃ y', exitTo id y = some y' ∧ ItsR C E x' y'
  | [], _, _, _, h => by simp [exitIt] at h
  | x :: r, x', y, hr, h => by
    obtain ⟨i, k, rfl, h1, h2⟩ := hr
    cases h1 with
    | blk =>
      rename_i id'
      simp only [exitIt] at h
      split at h
      · rename_i he
        simp only [Option.some.injEq] at h; subst h
        exact ⟨k, by simp only [exitTo, he, if_true], h2⟩
      · rename_i he
        obtain ⟨y', h3, h4⟩ := exit_ok h2 h
        exact ⟨y', by simp only [exitTo, he]; exact h3, h4⟩
    | _ =>
      simp only [exitIt] at h
      obtain ⟨y', h3, h4⟩ := exit_ok h2 h
      exact ⟨y', by simp only [exitTo]; exact h3, h4⟩

theorem exit_none {E : Env} {id : Nat} : ∀ {x : List It} {y : List Item}, ItsR C E x y → exitIt id x = none → exitTo id y = none
  | [], _, hr, _ => by simp only [ItsR] at hr; subst hr; rfl
  | x :: r, y, hr, h => by
    obtain ⟨i, k, rfl, h1, h2⟩ := hr
    cases h1 with
    | blk =>
      simp only [exitIt] at h
      split at h
      · cases h
      · rename_i he
        have := exit_none h2 h
        simp only [exitTo, he]; exact this
    | _ =>
      simp only [exitIt] at h
      have := exit_none h2 h
      simp only [exitTo]; exact this

theorem sub_snoc : ∀ (p q : List Nat) (C : Code) {c : Code}, sub p C = some c → sub (p ++ q) C = sub q c
  | [], q, C, c, h => by simp only [sub, Option.some.injEq] at h; subst h; rfl
  | n :: p, q, C, c, h => by
    unfold sub at h
    split at h <;> first
      | (rename_i heq; cases heq; done)
      | (rename_i heq; injection heq with h1 h2; subst h1 h2; simp only [List.cons_append, sub]; exact sub_snoc _ q _ h)
      | (cases h; done)
      | skip

theorem findL_none {l : Nat} : ∀ (c : Code) (p : List Nat), findL l c p = none → findLabel c l = none
  | .seq a b, p, h => by
    unfold findL at h
    split at h
    · cases h
    · rename_i h1
      unfold findLabel
      rw [findL_none a _ h1]; exact findL_none b _ h
  | .label n, p, h => by
    unfold findL at h
    split at h
    · cases h
    · rename_i h1; unfold findLabel; rw [if_neg h1]
  | .skip, _, _ => rfl
  | .region .., _, _ => rfl
  | .cond .., _, _ => rfl
  | .block .., _, _ => rfl
  | .loop .., _, _ => rfl
  | .scope .., _, _ => rfl
  | .exit .., _, _ => rfl
  | .goto .., _, _ => rfl
  | .ret, _, _ => rfl
  | .rangeFunc .., _, _ => rfl
  | .refuse .., _, _ => rfl

theorem ItsR.append {E : Env} : ∀ {x x2 : List It} {y y2 : List Item}, ItsR C E x y → ItsR C E x2 y2 → ItsR C E (x ++ x2) (y ++ y2)
  | [], _, _, _, h, h' => by simp only [ItsR] at h; subst h; exact h'
  | _ :: _, _, _, _, ⟨i, k, e, h1, h2⟩, h' => by subst e; exact ⟨i, _, rfl, h1, ItsR.append h2 h'⟩

theorem findL_ok {E : Env} {l : Nat} : ∀ (c : Code) (p : List Nat) (its : List It), findL l c p = some its → sub p C = some c →
    ∃ rest ys, findLabel c l = some rest ∧ ItsR C E its ys ∧ ∀ (b : Frame) (a : Act) (k : List Item) (cs : List Frame) (w : World), Steps P (lone (b.atR a (.code rest :: k)) cs w) (lone (b.atR a (ys ++ k)) cs w)
  | .seq x y, p, its, h, hs => by
    unfold findL at h
    split at h
    · rename_i its' h1
      simp only [Option.some.injEq] at h; subst h
      obtain ⟨rest, ys, h2, h3, h4⟩ := findL_ok x _ its' h1 (by rw [sub_snoc _ _ _ hs]; rfl)
      refine ⟨.seq rest y, ys ++ [.code y], by unfold findLabel; rw [h2], h3.append ⟨_, [], rfl, .c (by rw [sub_snoc _ _ _ hs]; rfl), rfl⟩, ?_⟩
      intro b a k cs w
      refine .head stepR_seq ?_
      rw [List.append_assoc]; exact h4 b a (.code y :: k) cs w
    · rename_i h1
      obtain ⟨rest, ys, h2, h3, h4⟩ := findL_ok y _ its h (by rw [sub_snoc _ _ _ hs]; rfl)
      exact ⟨rest, ys, by unfold findLabel; rw [findL_none x _ h1]; exact h2, h3, h4⟩
  | .label n, p, its, h, hs => by
    unfold findL at h
    split at h
    · rename_i h1
      simp only [Option.some.injEq] at h; subst h
      exact ⟨.skip, [], by unfold findLabel; rw [if_pos h1], rfl, fun b a k cs w => .one stepR_skip⟩
    · cases h
  | .skip, _, _, h, _ => by simp [findL] at h
  | .region .., _, _, h, _ => by simp [findL] at h
  | .cond .., _, _, h, _ => by simp [findL] at h
  | .block .., _, _, h, _ => by simp [findL] at h
  | .loop .., _, _, h, _ => by simp [findL] at h
  | .scope .., _, _, h, _ => by simp [findL] at h
  | .exit .., _, _, h, _ => by simp [findL] at h
  | .goto .., _, _, h, _ => by simp [findL] at h
  | .ret, _, _, h, _ => by simp [findL] at h
  | .rangeFunc .., _, _, h, _ => by simp [findL] at h
  | .refuse .., _, _, h, _ => by simp [findL] at h

theorem goto_ok {E : Env} {l : Nat} : ∀ {x x' : List It} {y : List Item}, ItsR C E x y → gotoIt C l x = some x' →
    ∃ y1 y', gotoIn l y = some y1 ∧ ItsR C E x' y' ∧ ∀ (b : Frame) (a : Act) (cs : List Frame) (w : World), Steps P (lone (b.atR a y1) cs w) (lone (b.atR a y') cs w)
  | [], _, _, _, h => by simp [gotoIt] at h
  | x :: r, x', y, hr, h => by
    obtain ⟨i, k, rfl, h1, h2⟩ := hr
    cases h1 with
    | scope hs =>
      rename_i p c
      simp only [gotoIt, hs] at h
      split at h
      · rename_i its hf
        simp only [Option.some.injEq] at h; subst h
        obtain ⟨rest, ys, h3, h4, h5⟩ := findL_ok (E := E) (P := P) c _ its hf (by rw [sub_snoc _ _ _ hs]; rfl)
        exact ⟨_, ys ++ .inScope c :: k, by simp only [gotoIn, h3], h4.append ⟨_, _, rfl, .scope hs, h2⟩, fun b a cs w => h5 b a _ cs w⟩
      · rename_i hf
        obtain ⟨y1, y', h3, h4, h5⟩ := goto_ok h2 h
        exact ⟨y1, y', by simp only [gotoIn, findL_none c _ hf]; exact h3, h4, h5⟩
    | _ =>
      simp only [gotoIt] at h
      obtain ⟨y1, y', h3, h4, h5⟩ := goto_ok h2 h
      exact ⟨y1, y', by simp only [gotoIn]; exact h3, h4, h5⟩

theorem goto_none {E : Env} {l : Nat} : ∀ {x : List It} {y : List Item}, ItsR C E x y → gotoIt C l x = none → gotoIn l y = none
  | [], y, hr, _ => by simp only [ItsR] at hr; subst hr; rfl
  | x :: r, y, hr, h => by
    obtain ⟨i, k, rfl, h1, h2⟩ := hr
    cases h1 with
    | scope hs =>
      rename_i p c
      simp only [gotoIt, hs] at h
      split at h
      · cases h
      · rename_i hf
        simp only [gotoIn, findL_none c _ hf]; exact goto_none h2 h
    | _ =>
      simp only [gotoIt] at h
      simp only [gotoIn]; exact goto_none h2 h

/-! ### A frame that runs -/
theorem frame_run {fr : Frame} (h : fr.mode = .run) : fr = fr.atR ⟨fr.tmps, fr.defers⟩ fr.todo := by
  cases fr; simp only at h; subst h; rfl

/-- No operation of a drawn region is next, and none whose guard holds. -/
def noOg (C : Code) (s : St) : Prop := (∀ p i l k, s.todo ≠ .ops p (.og i :: l) :: k) ∧ (∀ p l k, s.todo = .ops p l :: k → ∀ id ops, sub p C ≠ some (.region id ops true)) ∧ (∀ j, s.todo ≠ [.rend j])

theorem noOg.todo {s : St} {E : Env} {real : List Item} {tmps : Array Value} (h : noOg C s) (ht : TodoR X A M C E s.fr s.V s.todo tmps real) : FrX X E s.fr tmps [] ∧ ItsR C E s.todo real := by
  cases ht with
  | plain hf ht => exact ⟨hf, ht⟩
  | og _ ht => exact absurd ht (h.1 _ _ _ _)
  | dr ht _ hs => exact absurd hs (h.2.1 _ _ _ ht _ _)
  | rend _ ht => exact absurd ht (h.2.2 _)

theorem noOg.of {s : St} {x : It} {k : List It} (h : s.todo = x :: k) (hx : ∀ p l, x ≠ .ops p l) (hr : ∀ j, x ≠ .rend j) : noOg C s :=
  ⟨fun p i l k' h' => by rw [h] at h'; injection h' with h1; exact hx _ _ h1, fun p l k' h' => by rw [h] at h'; injection h' with h1; exact absurd h1 (hx _ _),
    fun j h' => by rw [h] at h'; injection h' with h1; exact hr _ h1⟩

theorem noOg.nil {s : St} (h : s.todo = []) : noOg C s :=
  ⟨fun p i l k' h' => by (rw [h] at h'; cases h'), fun p l k' h' => by (rw [h] at h'; cases h'), fun j h' => by (rw [h] at h'; cases h')⟩

theorem noOg.ops {s : St} {p : List Nat} {l : List Sx} {k : List It} (h : s.todo = .ops p l :: k) (hl : ∀ i r, l ≠ .og i :: r) (hd : ∀ id ops, sub p C ≠ some (.region id ops true)) : noOg C s :=
  ⟨fun p' i l' k' h' => by (rw [h] at h'; injection h' with h1 h2; injection h1 with h3 h4; exact hl _ _ h4), fun p' l' k' h' => by (rw [h] at h'; injection h' with h1 h2; injection h1 with h3 h4; subst h3; exact hd),
    fun j h' => by (rw [h] at h'; injection h' with h1; cases h1)⟩

/-- Steps that change nothing but what is to do. -/
theorem AW.todo {s : St} {k : List It} (hmd : s.md = .run)
    (h : ∀ E real, ItsR C E s.todo real → ∃ y, ItsR C E k y ∧ ∀ b a cs w, b.roundOf = none ∨ True → (∀ i, i < s.fr.length → RV X E (lget s.fr i) (a.tmps.getD i undef)) → Steps P (lone (Frame.atR b a real) cs w) (lone (b.atR a y) cs w))
    (hog : noOg C s) : AW X P A M F C s (· = { s with todo := k }) := by
  intro E fr cs0 cs w hi hs
  have ht := hs.todo
  simp only [hmd] at ht
  have hm := hs.md
  rw [hmd] at hm
  simp only [MdR] at hm
  obtain ⟨hf, ht⟩ := hog.todo ht
  · obtain ⟨y, h1, h2⟩ := h E _ ht
    refine ⟨_, E, fr.atR ⟨fr.tmps, fr.defers⟩ y, cs, w, rfl, ?_, hi, ⟨hs.fn, ?_, ?_, hs.df, hs.ro, hs.cm⟩, .refl E w, rfl, rfl⟩
    · have := h2 fr ⟨fr.tmps, fr.defers⟩ cs w (.inr trivial) (fun i hi => hf.2 i hi rfl)
      rw [← frame_run hm] at this; exact this
    · simp only [hmd, MdR]; rfl
    · simp only [hmd]; exact .plain hf h1

end
end Go.Sk
