/- Sk, part ZI: what a call does; calls by what they do. -/
import Derived.Test.YtlheciphihmomaaGreatDoorSkZ
set_option linter.all false
namespace Go.Sk
open Go

section
variable {X : Tb} {P : Program} {M : Mt} {F : FuncId} {C : Code} {A : Ari}

/-- The frame with which a call begins. -/
def Begins (P : Program) (fr0 : Frame) : Next → Prop
  | .enter g args => fr0 = Frame.enter P g args .normal
  | .round l f tmps a b => fr0 = Frame.round l f tmps a b .normal
  | _ => False

/-- How a call's end comes to its caller. -/
def Back (X : Tb) (P : Program) (E : Env) (m : Machine) (c : Frame) (cs : List Frame) (w : World) : AE → Prop
  | .ret v => ∃ y, RV0 X E v y ∧ Steps P m (lone (c.finish y) cs w)
  | .pan ch => ∃ l, ChR X E ch l ∧ Steps P m (lone (c.raise l) cs w)

/-- What a call of f with these arguments does. -/
def Does (X : Tb) (P : Program) (f : AV) (args : List AV) (V : List AO) (Φ : AE → List AO → Prop) : Prop :=
  ∀ E w v ys, Inv X P E V w → RV0 X E f v → RVs X E args ys → ∃ n w1, (do let d ← Deferred.ofValue v ys.toArray; invoke d.target d.args : Sem Next).run P w = .ok n w1 ∧
    ((∃ r y V' E', n = .value y ∧ Φ (.ret r) V' ∧ RV0 X E' r y ∧ Inv X P E' V' w1 ∧ Ext E w E' w1) ∨
     (w1 = w ∧ ∃ fr0, Begins P fr0 n ∧ ∀ c cs, ∃ e V' E' w', Φ e V' ∧ Inv X P E' V' w' ∧ Ext E w E' w' ∧ Back X P E' (lone fr0 (c :: cs) w) c cs w' e))

theorem Does.mono {f : AV} {args : List AV} {V : List AO} {Φ Ψ : AE → List AO → Prop} (h : Does X P f args V Φ) (h' : ∀ e V', Φ e V' → Ψ e V') : Does X P f args V Ψ := by
  intro E w v ys hi hv hys
  obtain ⟨n, w1, h1, h2⟩ := h E w v ys hi hv hys
  refine ⟨n, w1, h1, ?_⟩
  rcases h2 with ⟨r, y, V', E', g1, g2, g3⟩ | ⟨hw, fr0, g1, g2⟩
  · exact .inl ⟨r, y, V', E', g1, h' _ _ g2, g3⟩
  · refine .inr ⟨hw, fr0, g1, fun c cs => ?_⟩
    obtain ⟨e, V', E', w', g3, g4⟩ := g2 c cs
    exact ⟨e, V', E', w', h' _ _ g3, g4⟩

theorem RVs.append {E : Env} : ∀ {l m : List AV} {ys zs : List Value}, RVs X E l ys → RVs X E m zs → RVs X E (l ++ m) (ys ++ zs)
  | [], m, ys, zs, h, h' => by simp only [RVs] at h; subst h; exact h'
  | v :: l, m, ys, zs, h, h' => by
    obtain ⟨y, r, rfl, h1, h2⟩ := RVs.cons_iff.1 h
    exact RVs.cons_iff.2 ⟨y, _, rfl, h1, RVs.append h2 h'⟩

theorem Does.flat {g : FuncId} {a c args : List AV} {V : List AO} {Φ : AE → List AO → Prop} (h : Does X P (.fn g [] []) (a ++ args ++ c) V Φ) : Does X P (.fn g a c) args V Φ := by
  intro E w v ys hi hv hys
  obtain ⟨a', c', rfl, h2, h3⟩ := rv_fn.1 hv
  obtain ⟨n, w1, h4, h5⟩ := h E w (.func (.func g) #[] #[]) (a' ++ ys ++ c') hi (rv_fn.2 ⟨[], [], rfl, by simp [RVs], by simp [RVs]⟩) (RVs.append (RVs.append h2 hys) h3)
  refine ⟨n, w1, ?_, h5⟩
  rw [← h4]
  simp [Deferred.ofValue, invoke]

theorem coer_ok {E : Env} {v : AV} {y : Value} (h : RV0 X E v y) : RV0 X E (coer v) y := by
  cases v with
  | slt q r e =>
    obtain ⟨cs, h1, h2⟩ := h
    simp only [R] at h1
    obtain ⟨y', ds, τ, c, rfl, h3, h4, _⟩ := h1
    exact ⟨[y'], by simp only [coer, R, DRel]; exact ⟨_, _, rfl, h3, h4⟩, h2⟩
  | _ => exact h

theorem coers_ok {E : Env} : ∀ {l : List AV} {ys : List Value}, RVs X E l ys → RVs X E (coers l) ys
  | [], _, h => h
  | v :: l, ys, h => by
    obtain ⟨y, r, rfl, h1, h2⟩ := RVs.cons_iff.1 h
    exact RVs.cons_iff.2 ⟨y, r, rfl, coer_ok h1, coers_ok h2⟩

/-- All closed. -/
def allDs : List AV → Bool
  | [] => true
  | .d _ :: l => allDs l
  | _ => false

/-- The summaries are true. -/
def SumOK (X : Tb) (P : Program) (S : FuncId → List AV → Option (AV × List Bool)) : Prop :=
  (∀ g args r ob, S g args = some (r, ob) → Obl ob → ∀ V, Does X P (.fn g [] []) args V fun e V' => e = .ret r ∧ V' = V) ∧ ∀ g args r ob, S g args = some (r, ob) → allDs args = true

theorem SumOK.none : SumOK X P fun _ _ => none := ⟨fun _ _ _ _ h => (by cases h), fun _ _ _ _ h => (by cases h)⟩

/-- All memory as it stands, never to be written. -/
def E0 (W : World) : Env := ⟨cellAt W, []⟩

theorem inv0 {W : World} (hg : GlobOK X (E0 W)) : Inv X P (E0 W) [] W :=
  ⟨rfl, fun r g o h => by simp [E0] at h, fun r r' g g' b o h => by simp [E0] at h, fun _ _ _ h => h, fun b o v _ ⟨r, g, h, _⟩ => by simp [E0] at h, fun b o ⟨r, g, h, _⟩ => by simp [E0] at h, hg⟩

theorem no_own {W : World} {b o : Nat} : ¬ Own (E0 W).ρ b o := fun ⟨r, g, h, _⟩ => by simp [E0] at h

theorem cellsAt0 {w : World} {b : Nat} {cs : List Value} (h : CellsOK w b cs) (o n : Nat) : CellsAt (E0 w).Γ b o ((cs.drop o).take n) := fun j v hv => h.at j v hv

theorem coerV_ok {E : Env} {w : World} {V : List AO} {v : AV} {y : Value} (hX : TbOK X P) (hi : Inv X P E V w) (hg : isGd v = false ∨ True) (h : RV0 X E v y) (hd : ∀ x, coerV A V v = .d x → True) :
    ∀ x, coerV A V v = .d x → RV0 X (E0 w) (.d x) y := by
  intro x hx
  have low : ∀ {u : AV}, RV0 X E u y → coer u = .d x → RV0 X (E0 w) (.d x) y := by
    intro u hu hc
    have := coer_ok hu
    rw [hc] at this
    obtain ⟨cs, h1, h2⟩ := this
    simp only [R] at h1
    exact ⟨cs, by simp only [R]; exact DRel.mono (fun b o v hv => hi.fast b o v hv) _ _ h1, h2⟩
  cases v with
  | msl r g off len =>
    simp only [coerV] at hx
    split at hx
    · rename_i e q g' hV
      split at hx
      · rename_i hg0
        simp only [beq_iff_eq] at hg0; subst hg0
        cases hx
        rw [rv_of_scalar rfl] at h; simp only [R] at h
        obtain ⟨b, e0, g0, n, cap, y', hy', _, hgh, hle, hgo⟩ := h
        simp only [List.cons.injEq, and_true] at hy'; subst hy'
        obtain ⟨b', cap', hb', hcap, hst, cs, ds, hc, hrr, hlen, htake⟩ := hi.arr hV hgh
        simp only [Gh.arr.injEq] at hb'; obtain ⟨rfl, rfl, rfl, rfl, rfl⟩ := hb'
        obtain ⟨h0, h1, h2, bo, rfl, hbo⟩ := hgo rfl
        have hsz := stOK_size hX hst
        rw [A.plus_eq]
        obtain ⟨g1, g2, g3⟩ := Sq.cut_ok (A := A) (lo := off) (hi := off + len) hrr h0 (by omega) (by omega)
        refine rv_sl.2 ⟨_, SqR.mono (fun b o v hv => hi.fast b o v hv) _ _ g1, ?_⟩
        rw [g2]
        have hl : (off + len - off).toNat = len.toNat := by omega
        rw [hl]
        by_cases hz : off.toNat < cap
        · have := hbo hz
          subst this
          refine .inl ⟨b, off.toNat * (X.td e0).size, cap - off.toNat, rfl, by omega, ?_⟩
          intro j v hv
          have hj := (List.getElem?_eq_some_iff.1 hv).1
          rw [List.getElem?_drop] at hv
          simp only [List.length_drop, List.length_take] at hj
          rw [List.getElem?_take_of_lt (by omega)] at hv
          subst htake
          rw [List.getElem?_take_of_lt (by simp only [List.length_take] at hj; omega)] at hv
          rw [hsz] at hv
          exact (hc.cell _).trans hv
        · have hl0 : len.toNat = 0 := by omega
          have hc0 : cap - off.toNat = 0 := by omega
          rw [hl0, hc0]
          exact .inr ⟨_, rfl, rfl⟩
      · cases hx
    · cases hx
  | asl r p lo hh =>
    simp only [coerV] at hx
    split at hx
    · rename_i u v hV
      split at hx
      · rename_i k q hget
        cases hx
        rw [rv_of_scalar rfl] at h; simp only [R] at h
        obtain ⟨bb, t0, o, u', sz, n, e', bo, hy', hgh, htat, htdu, hof, h0, h1, h2, hbo⟩ := h
        simp only [List.cons.injEq, and_true] at hy'; subst hy'
        obtain ⟨b', hb', hf, cs, hc, hr⟩ := hi.blk hV hgh
        simp only [Gh.blk.injEq] at hb'; obtain ⟨rfl, rfl⟩ := hb'
        obtain ⟨g1, g2, g3⟩ := getP_ok hX A p v _ u' o cs hr hf hof htat
        rw [hget] at g1 g3
        obtain ⟨sz', e'', htdu', hqst, hqg⟩ := g3.darr
        rw [htdu] at htdu'; cases htdu'
        simp only [R, DRel] at g1
        obtain ⟨g4, g5⟩ := g1
        obtain ⟨k1, k2, k3⟩ := Sq.cut_ok (A := A) (lo := lo) (hi := hh) g4 h0 h1 (by omega)
        refine rv_sl.2 ⟨_, SqR.mono (fun b o v hv => hi.fast b o v hv) _ _ k1, ?_⟩
        rw [k2]
        by_cases hz : lo < (k : Int)
        · have := hbo hz
          subst this
          refine .inl ⟨bb, o + lo.toNat * (X.td e').size, k - lo.toNat, rfl, by omega, ?_⟩
          intro j v hv
          have hj := (List.getElem?_eq_some_iff.1 hv).1
          rw [List.getElem?_drop] at hv
          simp only [List.length_drop, List.length_take] at hj
          rw [List.getElem?_take_of_lt (by omega)] at hv
          rw [List.getElem?_take_of_lt (by omega), List.getElem?_drop, hqst] at hv
          rw [Nat.add_assoc]
          exact (hc.cell _).trans hv
        · have hl0 : (hh - lo).toNat = 0 := by omega
          have hc0 : k - lo.toNat = 0 := by omega
          rw [hl0, hc0]
          exact .inr ⟨_, rfl, rfl⟩
      · cases hx
    · cases hx
  | _ => exact low h hx

theorem coersV_ok {E : Env} {w : World} {V : List AO} (hX : TbOK X P) (hi : Inv X P E V w) : ∀ {l : List AV} {ys : List Value}, RVs X E l ys → allDs (coersV A V l) = true → RVs X (E0 w) (coersV A V l) ys
  | [], ys, h, _ => by simp only [RVs] at h; subst h; simp [coersV, RVs]
  | v :: l, ys, h, ha => by
    obtain ⟨y, r, rfl, h1, h2⟩ := RVs.cons_iff.1 h
    simp only [coersV] at ha ⊢
    cases hc : coerV A V v with
    | d x =>
      rw [hc] at ha
      exact RVs.cons_iff.2 ⟨y, r, rfl, coerV_ok hX hi (.inr trivial) h1 (fun _ _ => trivial) x hc, coersV_ok hX hi h2 ha⟩
    | _ => rw [hc] at ha; cases ha

mutual
theorem flat_ok {E E' : Env} : ∀ (v : AV) (y : Value), flatA v = true → RV0 X E v y → RV0 X E' v y
  | .d (.bool b), y, _, h => rv_bool.2 (rv_bool.1 h)
  | .d (.int k n), y, _, h => rv_int.2 (rv_int.1 h)
  | .d (.str s), y, _, h => rv_str.2 (rv_str.1 h)
  | .tup l, y, hf, h => by
    obtain ⟨ys, h1, h2⟩ := rv_tup.1 h
    exact rv_tup.2 ⟨ys, h1, flats_ok l ys (by simpa [flatA] using hf) h2⟩
  | .d (.agg _), _, h, _ | .d (.arr _ _), _, h, _ | .d (.sl _), _, h, _ | .d (.slx _), _, h, _ | .d .nils, _, h, _ | .d .nilp, _, h, _ | .d .nilm, _, h, _ | .d .nilf, _, h, _ | .d .nili, _, h, _ | .d (.ifc _ _), _, h, _ | .d .junk, _, h, _ => by cases h
  | .ptr _ _, _, h, _ | .ep _ _ _ _, _, h, _ | .pd _ _, _, h, _ | .agg _, _, h, _ | .slt _ _ _, _, h, _ | .msl _ _ _ _, _, h, _ | .asl _ _ _ _, _, h, _ | .map _, _, h, _ | .fn _ _ _, _, h, _ | .yield _, _, h, _ | .ifc _ _, _, h, _ | .gd _ _, _, h, _ | .gl _, _, h, _ | .undef, _, h, _ => by cases h
theorem flats_ok {E E' : Env} : ∀ (l : List AV) (ys : List Value), flatAs l = true → RVs X E l ys → RVs X E' l ys
  | [], ys, _, h => by simpa only [RVs] using h
  | v :: l, ys, hf, h => by
    obtain ⟨y, r, rfl, h1, h2⟩ := RVs.cons_iff.1 h
    simp only [flatAs, Bool.and_eq_true] at hf
    exact RVs.cons_iff.2 ⟨y, r, rfl, flat_ok v y hf.1 h1, flats_ok l r hf.2 h2⟩
end

/-- A call that only reads, and whose answer bears no memory, may be lent what is written elsewhere. -/
theorem Does.lent {g : FuncId} {args args' : List AV} {V : List AO} {r : AV} (h : Does X P (.fn g [] []) args' [] fun e V' => e = .ret r ∧ V' = []) (hf : flatA r = true)
    (hb : ∀ E w ys, Inv X P E V w → RVs X E args ys → RVs X (E0 w) args' ys) : Does X P (.fn g [] []) args V fun e V' => e = .ret r ∧ V' = V := by
  intro E w v ys hi hv hys
  have hg0 : GlobOK X (E0 w) := hi.glob.mono (E := E) (fun b o v hv => hi.fast b o v hv)
  obtain ⟨a', c', rfl, h2, h3⟩ := rv_fn.1 hv
  simp only [RVs] at h2 h3; subst h2 h3
  obtain ⟨n, w1, h4, h5⟩ := h (E0 w) w _ ys (inv0 hg0) (rv_fn.2 ⟨[], [], rfl, by simp [RVs], by simp [RVs]⟩) (hb E w ys hi hys)
  have back : ∀ {E' : Env} {w' : World}, Ext (E0 w) w E' w' → Inv X P E V w' ∧ Ext E w E w' := fun hx =>
    hi.more (Γ' := E.Γ) (hx.kept.mono fun b o _ ho => absurd ho no_own) (fun _ _ _ h => h) (fun b o v h => .inl h)
  refine ⟨n, w1, h4, ?_⟩
  rcases h5 with ⟨r', y, V', E', g1, ⟨g2, g2'⟩, g3, g4, g5⟩ | ⟨rfl, fr0, g1, g2⟩
  · cases g2
    obtain ⟨k1, k2⟩ := back g5
    exact .inl ⟨r, y, V, E, g1, ⟨rfl, rfl⟩, flat_ok r y hf g3, k1, k2⟩
  · refine .inr ⟨rfl, fr0, g1, fun c cs => ?_⟩
    obtain ⟨e, V', E', w', ⟨he, _⟩, g4, g5, g6⟩ := g2 c cs
    subst he
    obtain ⟨k1, k2⟩ := back g5
    obtain ⟨y, hy, hst⟩ := g6
    exact ⟨.ret r, V, E, w', ⟨rfl, rfl⟩, k1, k2, y, flat_ok r y hf hy, hst⟩

theorem sumOf_ok {S : FuncId → List AV → Option (AV × List Bool)} (hX : TbOK X P) (hS : SumOK X P S) {f : AV} {args : List AV} {r : AV} {ob : List Bool} {V : List AO} (h : sumOf A S V f args = some (r, ob)) (ho : Obl ob) :
    Does X P f args V fun e V' => e = .ret r ∧ V' = V := by
  cases f with
  | fn g a c =>
    refine Does.flat ?_
    simp only [sumOf] at h
    split at h
    · rename_i x hx
      cases h
      intro E w v ys hi hv hys
      exact hS.1 g _ r ob hx ho V E w v ys hi hv (coers_ok hys)
    · split at h
      · rename_i r' ob' hx
        split at h
        · rename_i hfl
          cases h
          exact Does.lent (hS.1 g _ r ob hx ho []) hfl fun E w ys hi hys => coersV_ok hX hi hys (hS.2 g _ r ob hx)
        · cases h
      · cases h
  | _ => cases h

theorem exec_call {fr : List AV} {V : List AO} {o : Oper} {f : AV} {args : List AV} {ob : List Bool} (h : exec A X M fr V o = .call f args ob) :
    ∃ (c : Call) (x : Operand), o.op = .call c ∧ c.callee = .value x ∧ f = ov fr x ∧ args = ovs fr c.args.toList ∧ ob = oo A fr x ++ oos A fr c.args.toList := by
  cases hop : o.op with
  | call c =>
    simp only [exec, hop] at h
    split at h
    · rename_i b hc
      exfalso
      revert h; unfold execBuiltin
      intro h
      repeat' first
        | (cases h; done)
        | (unfold vV at h)
        | split at h
    · rename_i f hc
      simp only [OR.call.injEq] at h
      obtain ⟨rfl, rfl, rfl⟩ := h
      exact ⟨c, f, rfl, hc, rfl, rfl, rfl⟩
    · cases h
  | makeMap t r => cases r <;> (simp only [exec, hop] at h; cases h)
  | _ =>
    exfalso
    simp only [exec, hop] at h
    repeat' first
      | (cases h; done)
      | (unfold vO at h)
      | (unfold vE at h)
      | (unfold buildSl at h)
      | split at h

/-- A call, by what it does. -/
theorem call_ok {s : St} {p : List Nat} {i : Nat} {pn : List Nat} {rest : List Sx} {k : List It} {o : Oper} {ob : List Bool} {Φ : St → Prop} {f : AV} {args : List AV} {Ψ : AE → List AO → Prop}
    (hex : exec A X M s.fr s.V o = .call f args ob) (hob : Obl ob) (ha : Ready X P A M F C s p i pn rest k o) (hr : Does X P f args s.V Ψ)
    (hz : ∀ e V', Ψ e V' → match e with
      | .ret v => isGd v = false ∧ AW X P A M F C { s with todo := .ops p rest :: k, fr := put s.fr o.dst v, V := V' } Φ
      | .pan ch => AW X P A M F C { s with todo := .ops p rest :: k, fr := undefs s.fr pn, V := V', md := .pan ch } Φ) : AW X P A M F C s Φ := by
  intro E00 fr00 cs0 cs w00 hi00 hs00
  obtain ⟨E, fr, w, hst0, hi, hs, hext0, hk0, hro0, hat⟩ := ha E00 fr00 cs0 cs w00 hi00 hs00
  obtain ⟨frU, hfU, hexU⟩ := hat.tm
  rw [← hexU] at hex
  obtain ⟨c, x, hop, hcal, rfl, rfl, rfl⟩ := exec_call hex
  rw [Obl_append] at hob
  have hv := ov_ok (a := ⟨fr.tmps, fr.defers⟩) hfU.ok x hob.1
  have hys := ovs_ok (a := ⟨fr.tmps, fr.defers⟩) hfU.ok _ hob.2
  obtain ⟨n, w1, hrun, hcase⟩ := hr E w _ _ hi hv hys
  have hargs : c.args.map (Act.eval ⟨fr.tmps, fr.defers⟩) = (c.args.toList.map (Act.eval ⟨fr.tmps, fr.defers⟩)).toArray := by simp [← Array.toList_map]
  have hexec : (execOp (Act.eval ⟨fr.tmps, fr.defers⟩) o).run P w = .ok n w1 := by
    rw [← hrun]
    simp only [execOp, hop, resolve, hcal, hargs]
  have hnd : ∀ c, o.op ≠ .defer c := by intro c' hc'; rw [hop] at hc'; cases hc'
  obtain ⟨ops, idx, k', ht, hopi, hw, hcont⟩ := hat.todo
  have hro : ∀ {E' : Env}, E.le E' → match s.ro with | none => fr.roundOf = none | some r => ∃ l, fr.roundOf = some l ∧ E'.ρ[r]? = some (.loop l) := by
    intro E' hE
    have := hs.ro
    revert this
    cases hro : s.ro with
    | none => exact fun h => h
    | some r => rintro ⟨l, h1, h2⟩; obtain ⟨g, hg, hle⟩ := hE.ρ _ _ h2; simp only [Gh.le] at hle; subst hle; exact ⟨l, h1, hg⟩
  have hcm : ∀ {E' : Env}, E.le E' → match s.cm with | none => fr.kind = .normal ∧ cs = cs0 | some m => fr.kind = .deferred ∧ ∃ c k m', cs0 = c :: k ∧ cs = { c with mode := m' } :: k ∧ MdR X E' m m' := by
    intro E' hE
    have := hs.cm
    revert this
    cases hcm : s.cm with
    | none => exact fun h => h
    | some m => rintro ⟨hk, c, k, m', h1, h2, h3⟩; exact ⟨hk, c, k, m', h1, h2, h3.mono hE⟩
  have go : ∀ (s1 : St) (fr1 : Frame) (V' : List AO) (E' : Env) (w' : World), AW X P A M F C s1 Φ → s1.V = V' → Inv X P E' V' w' → Ext E w E' w' → Steps P (lone fr cs w) (lone fr1 cs w') → StR X P A M F C E' s1 fr1 cs0 cs → fr1.kind = fr.kind → fr1.roundOf = fr.roundOf →
      ∃ s' E' fr' cs' w', Φ s' ∧ Steps P (lone fr00 cs w00) (lone fr' cs' w') ∧ Inv X P E' s'.V w' ∧ StR X P A M F C E' s' fr' cs0 cs' ∧ Ext E00 w00 E' w' ∧ fr'.kind = fr00.kind ∧ fr'.roundOf = fr00.roundOf := by
    intro s1 fr1 V' E' w' hA hV hi' he' hst hsr hk1 hk2
    obtain ⟨s2, E2, fr2, cs2, w2, g1, g2, g3, g4, g5, g6, g7⟩ := hA E' fr1 cs0 cs w' (by rw [hV]; exact hi') hsr
    exact ⟨s2, E2, fr2, cs2, w2, g1, hst0.trans (hst.trans g2), g3, g4, hext0.trans (he'.trans g5), g6.trans (hk1.trans hk0), g7.trans (hk2.trans hro0)⟩
  have ret : ∀ (v : AV) (y : Value) (V' : List AO) (E' : Env) (w' : World), isGd v = false → AW X P A M F C { s with todo := .ops p rest :: k, fr := put s.fr o.dst v, V := V' } Φ → RV0 X E' v y → Inv X P E' V' w' → Ext E w E' w' → Steps P (lone fr cs w) (lone (fr.finish y) cs w') →
      ∃ s' E' fr' cs' w', Φ s' ∧ Steps P (lone fr00 cs w00) (lone fr' cs' w') ∧ Inv X P E' s'.V w' ∧ StR X P A M F C E' s' fr' cs0 cs' ∧ Ext E00 w00 E' w' ∧ fr'.kind = fr00.kind ∧ fr'.roundOf = fr00.roundOf := by
    intro v y V' E' w' hgd hA hy hi' he' hst
    have hfin : fr.finish y = fr.atR ((⟨fr.tmps, fr.defers⟩ : Act).put o.dst y) (.inRegion ops idx :: k') := by
      have := Frame.finish_atR fr ⟨fr.tmps, fr.defers⟩ ops i idx k' y
      rw [← ht, ← frame_run hat.mode, hopi] at this; exact this
    rw [hfin] at hst
    refine go _ _ V' E' w' hA rfl hi' he' hst ⟨hs.fn, ?_, ?_, ?_, hro he'.le, hcm he'.le⟩ rfl rfl
    · simp only [hat.md, MdR]; rfl
    · simp only [hat.md]
      exact hcont E' V' v y _ he'.le (fun h => by simp only [keepsV, hop] at h; cases h) (RV.of hy (isGd_false hgd))
    · simp only [Frame.atR, put_defers]; exact hs.df.mono he'.le
  have hg := stepGR_op (P := P) (b := fr) (a := ⟨fr.tmps, fr.defers⟩) (k := k') (cs := cs) (w := w) (rest := idx) hopi hw
  rw [← ht, ← frame_run hat.mode, Oper.semAt_eq _ _ _ hnd] at hg
  rcases hcase with ⟨r, y, V', E', rfl, h1, h2, h3, h4⟩ | ⟨rfl, fr0, hbeg, hfr⟩
  · obtain ⟨hgd, hA⟩ := hz _ _ h1
    refine ret r y V' E' w1 hgd hA h2 h3 h4 (.one (step_lone_go ?_))
    rw [hg]; simp [stepG.apply, hexec]
  · have henter : Go.step P (lone fr cs w1) = .next (lone fr0 (fr :: cs) w1) := by
      cases n with
      | enter g args => simp only [Begins] at hbeg; subst hbeg; exact step_lone_go (by rw [hg]; simp [stepG.apply, hexec, ht])
      | round l f tmps a b => simp only [Begins] at hbeg; subst hbeg; exact step_lone_go (by rw [hg]; simp [stepG.apply, hexec])
      | _ => exact hbeg.elim
    obtain ⟨e, V', E', w', h3, h5, h6, h8⟩ := hfr fr cs
    have hz := hz e V' h3
    cases e with
    | ret v =>
      obtain ⟨hgd, hA⟩ := hz
      obtain ⟨y, hy, hl⟩ := h8
      exact ret v y V' E' w' hgd hA hy h5 h6 (.head henter hl)
    | pan ch =>
      obtain ⟨l, hch, hl⟩ := h8
      have hraise : fr.raise l = { fr with mode := .panicking l } := by simp [Frame.raise, hat.mode]
      rw [hraise] at hl
      refine go _ _ V' E' w' hz rfl h5 h6 (.head henter hl) ⟨hs.fn, ?_, ?_, hs.df.mono h6.le, hro h6.le, hcm h6.le⟩ rfl rfl
      · exact ⟨l, rfl, hch⟩
      · exact hat.pan.mono h6.le

end
end Go.Sk
