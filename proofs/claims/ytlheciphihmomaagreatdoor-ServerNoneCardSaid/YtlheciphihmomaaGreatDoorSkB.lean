/- Sk, part B: what abstract values and objects say of the machine's memory; growth; the frame's relation. -/
import Derived.Test.YtlheciphihmomaaGreatDoorSkA
set_option linter.all false
namespace Go.Sk
open Go

abbrev Gam := Nat → Nat → Option Value

def CellsAt (Γ : Gam) (b o : Nat) (cs : List Value) : Prop := ∀ i v, cs[i]? = some v → Γ b (o + i) = some v

/-- A value made of cells: a struct or an array, or a lone cell. -/
def VOf (agg : Bool) (cs : List Value) (y : Value) : Prop :=
  match agg with
  | true => y = .agg cs.toArray
  | false => cs = [y]

def Sq.length {α : Type} : Sq α → Nat
  | .b l => l.length
  | .s l => l.length
  | .i _ l => l.length
  | .g _ l => l.length

def one : Value → Bool
  | .agg _ | .tuple _ => false
  | _ => true

def capOf : Value → Nat
  | .slice _ _ c => c
  | _ => 0

def SlAt (Γ : Gam) (v : Value) (n : Nat) (ds : List Value) : Prop :=
  (∃ b o cap, v = .slice (some ⟨b, o, none⟩) n cap ∧ n ≤ cap ∧ CellsAt Γ b o ds) ∨ (∃ a, v = .slice a 0 0 ∧ n = 0)

mutual
def DRel (Γ : Gam) : D → List Value → Prop
  | .bool b, cs => cs = [.bool b]
  | .int k n, cs => cs = [.int k n]
  | .str s, cs => cs = [.string ⟨s.toArray⟩]
  | .agg l, cs => DsRel Γ l cs
  | .arr n q, cs => SqR Γ q cs ∧ q.length = n
  | .sl q, cs => ∃ v ds, cs = [v] ∧ SqR Γ q ds ∧ SlAt Γ v q.length ds
  | .slx q, cs => ∃ v ds, cs = [v] ∧ SqR Γ q ds ∧ SlAt Γ v q.length ds ∧ capOf v = q.length
  | .nils, cs => cs = [.slice none 0 0]
  | .nilp, cs => cs = [.pointer none]
  | .nilm, cs => cs = [.map none]
  | .nilf, cs => cs = [.nilFunc]
  | .nili, cs => cs = [.nilIface]
  | .ifc t v, cs => ∃ x ys, cs = [.iface t x] ∧ DRel Γ v ys ∧ VOf v.isAgg ys x
  | .junk, cs => ∃ v, cs = [v] ∧ one v = true
def DsRel (Γ : Gam) : List D → List Value → Prop
  | [], cs => cs = []
  | x :: l, cs => ∃ a b, cs = a ++ b ∧ DRel Γ x a ∧ DsRel Γ l b
def SqR (Γ : Gam) : Sq D → List Value → Prop
  | .b l, cs => cs = l.map fun b => Value.int .u8 (b.toNat : Int)
  | .s l, cs => cs = l.map fun s => Value.string ⟨s.toArray⟩
  | .i k l, cs => cs = l.map fun n => Value.int k n
  | .g sh l, cs => DsRel Γ l cs ∧ D.shsAll sh l
end


mutual
theorem shD_sz : ∀ (x : D), x.sz = (shD x).sz
  | .agg l => by simp only [D.sz, shD, Sh.sz, shDs_sz l]
  | .arr n q => rfl
  | .bool _ | .int _ _ | .str _ | .sl _ | .slx _ | .nils | .nilp | .nilm | .nilf | .nili | .ifc _ _ | .junk => rfl
theorem shDs_sz : ∀ (l : List D), D.szs l = Sh.szs (shDs l)
  | [] => rfl
  | x :: l => by simp only [D.szs, shDs, Sh.szs, shD_sz x, shDs_sz l]
end

mutual
theorem DRel.len {Γ : Gam} : ∀ (d : D) (cs : List Value), DRel Γ d cs → cs.length = d.sz
  | .bool b, cs, h => by simp only [DRel] at h; subst h; rfl
  | .int k n, cs, h => by simp only [DRel] at h; subst h; rfl
  | .str s, cs, h => by simp only [DRel] at h; subst h; rfl
  | .agg l, cs, h => by simp only [DRel] at h; simpa only [D.sz] using DsRel.len l cs h
  | .arr n q, cs, h => by simp only [DRel] at h; have := SqR.len q cs h.1; rw [this, h.2]; rfl
  | .sl q, cs, h => by simp only [DRel] at h; obtain ⟨v, ds, rfl, _⟩ := h; rfl
  | .slx q, cs, h => by simp only [DRel] at h; obtain ⟨v, ds, rfl, _⟩ := h; rfl
  | .nils, cs, h => by simp only [DRel] at h; subst h; rfl
  | .nilp, cs, h => by simp only [DRel] at h; subst h; rfl
  | .nilm, cs, h => by simp only [DRel] at h; subst h; rfl
  | .nilf, cs, h => by simp only [DRel] at h; subst h; rfl
  | .nili, cs, h => by simp only [DRel] at h; subst h; rfl
  | .ifc t v, cs, h => by simp only [DRel] at h; obtain ⟨x, ys, rfl, _⟩ := h; rfl
  | .junk, cs, h => by simp only [DRel] at h; obtain ⟨v, rfl, _⟩ := h; rfl
theorem DsRel.len {Γ : Gam} : ∀ (l : List D) (cs : List Value), DsRel Γ l cs → cs.length = D.szs l
  | [], cs, h => by simp only [DsRel] at h; subst h; rfl
  | x :: l, cs, h => by
    simp only [DsRel] at h
    obtain ⟨a, b, rfl, ha, hb⟩ := h
    rw [List.length_append, DRel.len x a ha, DsRel.len l b hb]; rfl
theorem SqR.len {Γ : Gam} : ∀ (q : Sq D) (cs : List Value), SqR Γ q cs → cs.length = q.length * q.st
  | .b l, cs, h => by simp only [SqR] at h; subst h; simp [Sq.length, Sq.st]
  | .s l, cs, h => by simp only [SqR] at h; subst h; simp [Sq.length, Sq.st]
  | .i k l, cs, h => by simp only [SqR] at h; subst h; simp [Sq.length, Sq.st]
  | .g sh l, cs, h => by
    simp only [SqR] at h
    have h1 := DsRel.len l cs h.1
    have h2 : ∀ (l : List D), D.shsAll sh l → D.szs l = l.length * sh.sz := by
      intro l hl
      induction l with
      | nil => simp [D.szs]
      | cons x l ih =>
        have hx := hl x (by simp)
        have := ih (fun y hy => hl y (by simp [hy]))
        simp only [D.szs, List.length_cons, this, shD_sz, hx]
        rw [Nat.succ_mul]; omega
    rw [h1, h2 l h.2]; rfl
end

mutual
theorem DRel.mono {Γ Γ' : Gam} (hΓ : ∀ b o v, Γ b o = some v → Γ' b o = some v) : ∀ (d : D) (cs : List Value), DRel Γ d cs → DRel Γ' d cs
  | .bool b, cs, h => by simpa only [DRel] using h
  | .int k n, cs, h => by simpa only [DRel] using h
  | .str s, cs, h => by simpa only [DRel] using h
  | .agg l, cs, h => by simp only [DRel] at h ⊢; exact DsRel.mono hΓ l cs h
  | .arr n q, cs, h => by simp only [DRel] at h ⊢; exact ⟨SqR.mono hΓ q cs h.1, h.2⟩
  | .sl q, cs, h => by
    simp only [DRel] at h ⊢
    obtain ⟨v, ds, rfl, h1, h2⟩ := h
    refine ⟨v, ds, rfl, SqR.mono hΓ q ds h1, ?_⟩
    rcases h2 with ⟨b, o, cap, rfl, hc, h3⟩ | h2
    · exact .inl ⟨b, o, cap, rfl, hc, fun i v hv => hΓ _ _ _ (h3 i v hv)⟩
    · exact .inr h2
  | .slx q, cs, h => by
    simp only [DRel] at h ⊢
    obtain ⟨v, ds, rfl, h1, h2, h4⟩ := h
    refine ⟨v, ds, rfl, SqR.mono hΓ q ds h1, ?_, h4⟩
    rcases h2 with ⟨b, o, cap, rfl, hc, h3⟩ | h2
    · exact .inl ⟨b, o, cap, rfl, hc, fun i v hv => hΓ _ _ _ (h3 i v hv)⟩
    · exact .inr h2
  | .nils, cs, h => by simpa only [DRel] using h
  | .nilp, cs, h => by simpa only [DRel] using h
  | .nilm, cs, h => by simpa only [DRel] using h
  | .nilf, cs, h => by simpa only [DRel] using h
  | .nili, cs, h => by simpa only [DRel] using h
  | .ifc t v, cs, h => by
    simp only [DRel] at h ⊢
    obtain ⟨x, ys, rfl, h1, h2⟩ := h
    exact ⟨x, ys, rfl, DRel.mono hΓ v ys h1, h2⟩
  | .junk, cs, h => by simpa only [DRel] using h
theorem DsRel.mono {Γ Γ' : Gam} (hΓ : ∀ b o v, Γ b o = some v → Γ' b o = some v) : ∀ (l : List D) (cs : List Value), DsRel Γ l cs → DsRel Γ' l cs
  | [], cs, h => by simpa only [DsRel] using h
  | x :: l, cs, h => by
    simp only [DsRel] at h ⊢
    obtain ⟨a, b, rfl, ha, hb⟩ := h
    exact ⟨a, b, rfl, DRel.mono hΓ x a ha, DsRel.mono hΓ l b hb⟩
theorem SqR.mono {Γ Γ' : Gam} (hΓ : ∀ b o v, Γ b o = some v → Γ' b o = some v) : ∀ (q : Sq D) (cs : List Value), SqR Γ q cs → SqR Γ' q cs
  | .b l, cs, h => by simpa only [SqR] using h
  | .s l, cs, h => by simpa only [SqR] using h
  | .i k l, cs, h => by simpa only [SqR] using h
  | .g st l, cs, h => by simp only [SqR] at h ⊢; exact ⟨DsRel.mono hΓ l cs h.1, h.2⟩
end

/-! ### Where abstract objects lie -/
inductive Gh where
  | blk (b t : Nat)
  | arr (b e g n cap : Nat)
  | tok (τ : Nat → Option (Nat × Nat × Nat)) (c : Nat)
  | map (b : Nat)
  | loop (b : Nat)
  | dfr (b : Nat)
  | none

structure Env where
  Γ : Gam
  ρ : List Gh

/-- A path's offset in cells, by the type. -/
def offT (X : Tb) : List PE → Nat → Option Nat
  | [], _ => some 0
  | .f n :: p, t => match X.td t with | .strct _ fs => if n < fs.length then (offT X p (lget fs n)).map (fun o => sumSz X fs n + o) else none | _ => none
  | .i x :: p, t => match X.td t with | .arr _ m e => if 0 ≤ x ∧ x < (m : Int) then (offT X p e).map (fun o => x.toNat * (X.td e).size + o) else none | _ => none

/-- An element of a sequence. -/
def Sq.at (q : Sq D) (i : Nat) : D :=
  match q with
  | .b l => .int .u8 ((l.getD i 0).toNat : Int)
  | .s l => .str (l.getD i [])
  | .i k l => .int k (l.getD i 0)
  | .g _ l => l.getD i .junk

def offD : List PE → D → Option Nat
  | [], _ => some 0
  | .f n :: p, .agg l => if n < l.length then (offD p (lget l n)).map (fun o => sumD l n + o) else none
  | .i x :: p, .arr n q => if 0 ≤ x ∧ x < (n : Int) then (offD p (q.at x.toNat)).map (fun o => x.toNat * q.st + o) else none
  | _, _ => none

mutual
def R (X : Tb) (E : Env) : AV → List Value → Prop
  | .d x, cs => DRel E.Γ x cs
  | .ptr r p, cs => ∃ b t o, cs = [.pointer (some ⟨b, o, none⟩)] ∧ E.ρ[r]? = some (.blk b t) ∧ offT X p t = some o
  | .ep r g i p, cs => ∃ b e g' n cap y, cs = [y] ∧ one y = true ∧ E.ρ[r]? = some (.arr b e g' n cap) ∧ g ≤ g' ∧
      (g = g' → 0 ≤ i ∧ i < (n : Int) ∧ ∃ o, offT X p e = some o ∧ y = .pointer (some ⟨b, i.toNat * (X.td e).size + o, none⟩))
  | .pd x p, cs => ∃ b o ds off, cs = [.pointer (some ⟨b, o + off, none⟩)] ∧ DRel E.Γ x ds ∧ CellsAt E.Γ b o ds ∧ offD p x = some off
  | .agg l, cs => Rs_ X E l cs
  | .tup l, cs => ∃ ys, cs = [.tuple ys.toArray] ∧ RVs X E l ys
  | .slt q r e, cs => ∃ y ds τ c, cs = [y] ∧ SqR E.Γ q ds ∧ SlAt E.Γ y q.length ds ∧ E.ρ[r]? = some (.tok τ c) ∧ e ≤ c ∧
      (capOf y = q.length ∨ ∃ b o cap o' cc, y = .slice (some ⟨b, o, none⟩) q.length cap ∧ τ e = some (b, o', cc) ∧ o + q.length * q.st = o' ∧ o + cap * q.st = cc)
  | .msl r g off len, cs => ∃ b e g' n cap y, cs = [y] ∧ one y = true ∧ E.ρ[r]? = some (.arr b e g' n cap) ∧ g ≤ g' ∧
      (g = g' → 0 ≤ off ∧ 0 ≤ len ∧ off + len ≤ (n : Int) ∧
        ∃ bo, y = .slice (some bo) len.toNat (cap - off.toNat) ∧ (off.toNat < cap → bo = ⟨b, off.toNat * (X.td e).size, none⟩))
  | .asl r p lo hi, cs => ∃ b t o u sz n e bo, cs = [.slice (some bo) (hi - lo).toNat (n - lo.toNat)] ∧ E.ρ[r]? = some (.blk b t) ∧
      tyAt X p t = some u ∧ X.td u = .arr sz n e ∧ offT X p t = some o ∧ 0 ≤ lo ∧ lo ≤ hi ∧ hi ≤ (n : Int) ∧ (lo < (n : Int) → bo = ⟨b, o + lo.toNat * (X.td e).size, none⟩)
  | .map r, cs => ∃ b, cs = [.map (some b)] ∧ E.ρ[r]? = some (.map b)
  | .fn f a c, cs => ∃ a' c', cs = [.func (.func f) a'.toArray c'.toArray] ∧ RVs X E a a' ∧ RVs X E c c'
  | .yield r, cs => ∃ b, cs = [.func (.yield b) #[] #[]] ∧ E.ρ[r]? = some (.loop b)
  | .ifc t v, cs => ∃ x ys, cs = [.iface t x] ∧ R X E v ys ∧ VOf v.isAgg ys x
  | .gd _ _, cs => ∃ y, cs = [y]
  | .gl g, cs => cs = [.pointer (some ⟨g, 0, none⟩)]
  | .undef, cs => ∃ y, cs = [y]
def Rs_ (X : Tb) (E : Env) : List AV → List Value → Prop
  | [], cs => cs = []
  | x :: l, cs => ∃ a b, cs = a ++ b ∧ R X E x a ∧ Rs_ X E l b
def RVs (X : Tb) (E : Env) : List AV → List Value → Prop
  | [], ys => ys = []
  | x :: l, ys => ∃ cs y r, ys = y :: r ∧ R X E x cs ∧ VOf x.isAgg cs y ∧ RVs X E l r
end

def RV0 (X : Tb) (E : Env) (v : AV) (y : Value) : Prop := ∃ cs, R X E v cs ∧ VOf v.isAgg cs y

/-- What a temporary holds. -/
def RV (X : Tb) (E : Env) (v : AV) (y : Value) : Prop :=
  match v with
  | .gd c v => (c = true → RV0 X E v y) ∧ (c = false → y = undef)
  | v => RV0 X E v y

/-! ### Growth -/
def Gh.le : Gh → Gh → Prop
  | .blk b t, g => g = .blk b t
  | .arr b e g n cap, g' => g' = .arr b e g n cap ∨ ∃ b' g2 n' cap', g' = .arr b' e g2 n' cap' ∧ g < g2
  | .tok τ c, g' => ∃ τ' c', g' = .tok τ' c' ∧ c ≤ c' ∧ ∀ e, e ≤ c → τ' e = τ e
  | .map b, g => g = .map b
  | .loop b, g => g = .loop b
  | .dfr b, g => g = .dfr b
  | .none, _ => True

theorem Gh.le_refl (g : Gh) : g.le g := by
  cases g with
  | tok τ c => exact ⟨τ, c, rfl, Nat.le_refl _, fun _ _ => rfl⟩
  | arr b e g n cap => exact .inl rfl
  | none => trivial
  | _ => rfl

theorem Gh.le_trans {a b c : Gh} (h : a.le b) (h' : b.le c) : a.le c := by
  cases a with
  | blk b t => simp only [Gh.le] at h; subst h; exact h'
  | map b => simp only [Gh.le] at h; subst h; exact h'
  | loop b => simp only [Gh.le] at h; subst h; exact h'
  | dfr b => simp only [Gh.le] at h; subst h; exact h'
  | none => trivial
  | arr b e g n cap =>
    rcases h with rfl | ⟨b', g2, n', cap', rfl, hg⟩
    · exact h'
    · rcases h' with rfl | ⟨b2, g3, n2, cap2, rfl, hg'⟩
      · exact .inr ⟨_, _, _, _, rfl, hg⟩
      · exact .inr ⟨_, _, _, _, rfl, Nat.lt_trans hg hg'⟩
  | tok τ c =>
    obtain ⟨τ', c', rfl, hc, ht⟩ := h
    obtain ⟨τ2, c2, rfl, hc2, ht2⟩ := h'
    exact ⟨_, _, rfl, Nat.le_trans hc hc2, fun e he => (ht2 e (Nat.le_trans he hc)).trans (ht e he)⟩

structure Env.le (E E' : Env) : Prop where
  Γ : ∀ b o v, E.Γ b o = some v → E'.Γ b o = some v
  ρ : ∀ (r : Nat) (g : Gh), E.ρ[r]? = some g → ∃ g' : Gh, E'.ρ[r]? = some g' ∧ g.le g'

theorem Env.le.refl (E : Env) : E.le E := ⟨fun _ _ _ h => h, fun _ g h => ⟨g, h, g.le_refl⟩⟩
theorem Env.le.trans {E E' E'' : Env} (h : E.le E') (h' : E'.le E'') : E.le E'' :=
  ⟨fun b o v hv => h'.Γ _ _ _ (h.Γ _ _ _ hv), fun r g hg => by
    obtain ⟨g', hg', hl⟩ := h.ρ r g hg
    obtain ⟨g2, hg2, hl2⟩ := h'.ρ r g' hg'
    exact ⟨g2, hg2, Gh.le_trans hl hl2⟩⟩

theorem SlAt.mono {Γ Γ' : Gam} (hΓ : ∀ b o v, Γ b o = some v → Γ' b o = some v) {v : Value} {n : Nat} {ds : List Value} (h : SlAt Γ v n ds) : SlAt Γ' v n ds := by
  rcases h with ⟨b, o, cap, rfl, hc, h3⟩ | h2
  · exact .inl ⟨b, o, cap, rfl, hc, fun i v hv => hΓ _ _ _ (h3 i v hv)⟩
  · exact .inr h2

mutual
theorem R.mono {X : Tb} {E E' : Env} (h : E.le E') : ∀ (v : AV) (cs : List Value), R X E v cs → R X E' v cs
  | .d x, cs, hr => by simp only [R] at hr ⊢; exact DRel.mono h.Γ x cs hr
  | .ptr r p, cs, hr => by
    simp only [R] at hr ⊢
    obtain ⟨b, t, o, rfl, h1, h2⟩ := hr
    obtain ⟨g', h3, h4⟩ := h.ρ _ _ h1
    simp only [Gh.le] at h4; subst h4
    exact ⟨b, t, o, rfl, h3, h2⟩
  | .ep r g i p, cs, hr => by
    simp only [R] at hr ⊢
    obtain ⟨b, e, g', n, cap, y, rfl, h0, h1, h2, h5⟩ := hr
    obtain ⟨g2, h3, h4⟩ := h.ρ _ _ h1
    rcases h4 with rfl | ⟨b', g3, n', cap', rfl, hg⟩
    · exact ⟨b, e, g', n, cap, y, rfl, h0, h3, h2, h5⟩
    · exact ⟨b', e, g3, n', cap', y, rfl, h0, h3, by omega, fun he => by omega⟩
  | .pd x p, cs, hr => by
    simp only [R] at hr ⊢
    obtain ⟨b, o, ds, off, rfl, h1, h2, h3⟩ := hr
    exact ⟨b, o, ds, off, rfl, DRel.mono h.Γ x ds h1, fun i v hv => h.Γ _ _ _ (h2 i v hv), h3⟩
  | .agg l, cs, hr => by simp only [R] at hr ⊢; exact Rs_.mono h l cs hr
  | .tup l, cs, hr => by
    simp only [R] at hr ⊢
    obtain ⟨ys, rfl, h1⟩ := hr
    exact ⟨ys, rfl, RVs.mono h l ys h1⟩
  | .slt q r e, cs, hr => by
    simp only [R] at hr ⊢
    obtain ⟨y, ds, τ, c, rfl, h1, h2, h3, h4, h5⟩ := hr
    obtain ⟨g', h6, τ', c', rfl, h7, h8⟩ := h.ρ _ _ h3
    refine ⟨y, ds, τ', c', rfl, SqR.mono h.Γ q ds h1, h2.mono h.Γ, h6, Nat.le_trans h4 h7, ?_⟩
    rw [h8 e h4]; exact h5
  | .msl r g off len, cs, hr => by
    simp only [R] at hr ⊢
    obtain ⟨b, e, g', n, cap, y, rfl, h0, h1, h2, h5⟩ := hr
    obtain ⟨g2, h3, h4⟩ := h.ρ _ _ h1
    rcases h4 with rfl | ⟨b', g3, n', cap', rfl, hg⟩
    · exact ⟨b, e, g', n, cap, y, rfl, h0, h3, h2, h5⟩
    · exact ⟨b', e, g3, n', cap', y, rfl, h0, h3, by omega, fun he => by omega⟩
  | .asl r p lo hi, cs, hr => by
    simp only [R] at hr ⊢
    obtain ⟨b, t, o, u, sz, n, e, bo, rfl, h1, h2⟩ := hr
    obtain ⟨g', h3, h4⟩ := h.ρ _ _ h1
    simp only [Gh.le] at h4; subst h4
    exact ⟨b, t, o, u, sz, n, e, bo, rfl, h3, h2⟩
  | .map r, cs, hr => by
    simp only [R] at hr ⊢
    obtain ⟨b, rfl, h1⟩ := hr
    obtain ⟨g', h3, h4⟩ := h.ρ _ _ h1
    simp only [Gh.le] at h4; subst h4
    exact ⟨b, rfl, h3⟩
  | .fn f a c, cs, hr => by
    simp only [R] at hr ⊢
    obtain ⟨a', c', rfl, h1, h2⟩ := hr
    exact ⟨a', c', rfl, RVs.mono h a a' h1, RVs.mono h c c' h2⟩
  | .yield r, cs, hr => by
    simp only [R] at hr ⊢
    obtain ⟨b, rfl, h1⟩ := hr
    obtain ⟨g', h3, h4⟩ := h.ρ _ _ h1
    simp only [Gh.le] at h4; subst h4
    exact ⟨b, rfl, h3⟩
  | .ifc t v, cs, hr => by
    simp only [R] at hr ⊢
    obtain ⟨x, ys, rfl, h1, h2⟩ := hr
    exact ⟨x, ys, rfl, R.mono h v ys h1, h2⟩
  | .gd _ _, cs, hr => by simpa only [R] using hr
  | .gl _, cs, hr => by simpa only [R] using hr
  | .undef, cs, hr => by simpa only [R] using hr
theorem Rs_.mono {X : Tb} {E E' : Env} (h : E.le E') : ∀ (l : List AV) (cs : List Value), Rs_ X E l cs → Rs_ X E' l cs
  | [], cs, hr => by simpa only [Rs_] using hr
  | x :: l, cs, hr => by
    simp only [Rs_] at hr ⊢
    obtain ⟨a, b, rfl, ha, hb⟩ := hr
    exact ⟨a, b, rfl, R.mono h x a ha, Rs_.mono h l b hb⟩
theorem RVs.mono {X : Tb} {E E' : Env} (h : E.le E') : ∀ (l : List AV) (ys : List Value), RVs X E l ys → RVs X E' l ys
  | [], cs, hr => by simpa only [RVs] using hr
  | x :: l, ys, hr => by
    simp only [RVs] at hr ⊢
    obtain ⟨cs, y, r, rfl, h1, h2, h3⟩ := hr
    exact ⟨cs, y, r, rfl, R.mono h x cs h1, h2, RVs.mono h l r h3⟩
end

theorem RV0.mono {X : Tb} {E E' : Env} (h : E.le E') {v : AV} {y : Value} : RV0 X E v y → RV0 X E' v y :=
  fun ⟨cs, h1, h2⟩ => ⟨cs, R.mono h v cs h1, h2⟩
theorem RV.mono {X : Tb} {E E' : Env} (h : E.le E') {v : AV} {y : Value} (hr : RV X E v y) : RV X E' v y := by
  cases v <;> first | exact RV0.mono h hr | exact ⟨fun hc => RV0.mono h (hr.1 hc), hr.2⟩

end Go.Sk
