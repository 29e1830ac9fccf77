/- Sk, part C: the memory's invariant; what may change; how worlds grow. -/
import Derived.Test.YtlheciphihmomaaGreatDoorSkB
set_option linter.all false
namespace Go.Sk
open Go

/-- None of a block's n cells is frozen. -/
def okfz (fz : Nat × Nat) (n : Nat) : Prop := fz.1 = fz.2 ∨ n ≤ fz.1

def cellAt (w : World) (b o : Nat) : Option Value := w.cell? ⟨b, o, none⟩

theorem cellAt_of {w : World} {b o : Nat} {c : Array Value} {t : Nat} {fz : Nat × Nat} (h : w.heap[b]? = some (.cells c t fz)) : cellAt w b o = c[o]? := by
  simp only [cellAt, World.cell?, h]; rfl

theorem cellAt_some {w : World} {b o : Nat} {v : Value} (h : cellAt w b o = some v) : ∃ c t fz, w.heap[b]? = some (.cells c t fz) ∧ c[o]? = some v := by
  simp only [cellAt, World.cell?] at h
  split at h
  · rename_i c t fz hc; exact ⟨c, t, fz, hc, by simpa using h⟩
  · simp at h

def own : Gh → Nat → Nat → Prop
  | .blk b _, x, _ => x = b
  | .arr b _ _ _ _, x, _ => x = b
  | .tok τ c, x, o => ∃ b lo hi, τ c = some (b, lo, hi) ∧ x = b ∧ lo ≤ o ∧ o < hi
  | .map b, x, _ => x = b
  | .loop b, x, _ => x = b
  | .dfr b, x, _ => x = b
  | .none, _, _ => False

def Own (ρ : List Gh) (b o : Nat) : Prop := ∃ (r : Nat) (g : Gh), ρ[r]? = some g ∧ own g b o

/-- Shape of a value by a type. -/
def Fit (X : Tb) (t : Nat) (v : AV) : Prop := ∃ n, shq (shA v) (shT X n t) = true

def CellsOK (w : World) (b : Nat) (cs : List Value) : Prop :=
  ∃ c te fz, w.heap[b]? = some (.cells c te fz) ∧ okfz fz c.size ∧ c.toList = cs

def jumpOf : AJ → Code
  | .ret => .ret
  | .exit id => .exit id
  | .goto l => .goto l

/-- The code of a function, by its number. -/
def codeOf (P : Program) (f : FuncId) : Option Code := (P.funcs[f]?).bind (·.body)

def FrOK (X : Tb) (E : Env) (fr : List AV) (tmps : Array Value) : Prop :=
  tmps.size = fr.length ∧ ∀ i, i < fr.length → RV X E (lget fr i) (tmps.getD i undef)

structure LoopOK (X : Tb) (P : Program) (E : Env) (L : ALoop) (r : Loop) : Prop where
  state : r.state = L.state
  pend : r.pending = L.pend.map jumpOf
  fn : r.fn = L.fn
  ps : r.params.toList = L.ps
  fr : FrOK X E L.fr r.tmps
  code : ∃ c f, codeOf P L.fn = some c ∧ sub L.pc c = some (.rangeFunc f r.params r.assign r.body)
  df : E.ρ[L.df]? = some (.dfr r.defers)

def MapOK (X : Tb) (E : Env) (m : List (D × AV)) (es : Array MapEntry) : Prop :=
  es.size = m.length ∧ ∀ (i : Nat) (e : MapEntry) (kv : D × AV), es[i]? = some e → m[i]? = some kv → RV0 X E (.d kv.1) e.key ∧ RV0 X E kv.2 e.val

def SlotOK (X : Tb) (P : Program) (E : Env) (g : Gh) (o : AO) (w : World) : Prop :=
  match g, o with
  | .blk b t, .blk t' v => t' = t ∧ Fit X t v ∧ ∃ cs, CellsOK w b cs ∧ R X E v cs
  | .arr b e g n cap, .arr e' q g' => e' = e ∧ g' = g ∧ q.length = n ∧ n ≤ cap ∧ stOK X e q = true ∧
      ∃ cs ds, CellsOK w b cs ∧ SqR E.Γ q ds ∧ cs.length = cap * (X.td e).size ∧ cs.take (n * (X.td e).size) = ds
  | .tok τ c, .grow e => e = c ∧ ∀ b lo hi, τ c = some (b, lo, hi) → ∃ cs, CellsOK w b cs ∧ hi ≤ cs.length
  | .map b, .map m => ∃ es clock, w.heap[b]? = some (.map es clock) ∧ MapOK X E m es
  | .loop b, .loop L => ∃ r, w.heap[b]? = some (.loop r) ∧ LoopOK X P E L r
  | .dfr b, .dfr op => w.heap[b]? = some (.deferred (if op then some [] else none))
  | _, .gone => True
  | _, _ => False

/-- The package-level variables that are told hold what is told. -/
def GlobOK (X : Tb) (E : Env) : Prop := (∀ g x, glob X.gl g = some x → ∃ ds, DRel E.Γ x ds ∧ CellsAt E.Γ g 0 ds) ∧ ∀ g, g ∈ X.gi → ∃ m : Int, E.Γ g 0 = some (.int .i64 m)

theorem GlobOK.mono {X : Tb} {E E' : Env} (h : ∀ b o v, E.Γ b o = some v → E'.Γ b o = some v) (hg : GlobOK X E) : GlobOK X E' := ⟨fun g x hx =>
  let ⟨ds, h1, h2⟩ := hg.1 g x hx
  ⟨ds, DRel.mono h _ _ h1, fun i v hv => h _ _ _ (h2 i v hv)⟩, fun g hm => let ⟨m, h1⟩ := hg.2 g hm; ⟨m, h _ _ _ h1⟩⟩

structure Inv (X : Tb) (P : Program) (E : Env) (V : List AO) (w : World) : Prop where
  len : E.ρ.length = V.length
  slot : ∀ (r : Nat) (g : Gh) (o : AO), E.ρ[r]? = some g → V[r]? = some o → SlotOK X P E g o w
  lone : ∀ (r r' : Nat) (g g' : Gh) (b o : Nat), E.ρ[r]? = some g → E.ρ[r']? = some g' → own g b o → own g' b o → r = r'
  fast : ∀ b o v, E.Γ b o = some v → cellAt w b o = some v
  free : ∀ b o v, E.Γ b o = some v → ¬ Own E.ρ b o
  old : ∀ b o, Own E.ρ b o → b < w.heap.size
  glob : GlobOK X E

def isCells : Obj → Bool
  | .cells .. => true
  | _ => false

/-- Nothing but the cells (and objects) of O has changed. -/
structure Kept (O : Nat → Nat → Prop) (w w' : World) : Prop where
  size : w.heap.size ≤ w'.heap.size
  out : w'.output = w.output
  os : w'.os = w.os
  tape : w'.tape = w.tape
  row : ∀ (b : Nat) c t fz, w.heap[b]? = some (.cells c t fz) → ∃ c' fz', w'.heap[b]? = some (.cells c' t fz') ∧ c'.size = c.size ∧ (∀ o, ¬ O b o → c'[o]? = c[o]?) ∧ ((∃ o, ¬ O b o) → fz' = fz) ∧ (okfz fz c.size → okfz fz' c.size)
  obj : ∀ (b : Nat) x, w.heap[b]? = some x → isCells x = false → ∃ x', w'.heap[b]? = some x' ∧ isCells x' = false ∧ ((∃ o, ¬ O b o) → x' = x)

theorem Kept.refl (O : Nat → Nat → Prop) (w : World) : Kept O w w :=
  ⟨Nat.le_refl _, rfl, rfl, rfl, fun _ c _ fz h => ⟨c, fz, h, rfl, fun _ _ => rfl, fun _ => rfl, fun h => h⟩, fun _ x h hx => ⟨x, h, hx, fun _ => rfl⟩⟩

theorem Kept.mono {O O' : Nat → Nat → Prop} {w w' : World} (h : Kept O w w') (hO : ∀ b o, b < w.heap.size → O b o → O' b o) : Kept O' w w' :=
  ⟨h.size, h.out, h.os, h.tape,
    fun b c t fz hb => let ⟨c', fz', h1, h2, h3, h4, h5⟩ := h.row b c t fz hb
      ⟨c', fz', h1, h2, fun o ho => h3 o fun ho' => ho (hO b o (Array.getElem?_eq_some_iff.1 hb).1 ho'), fun ⟨o, ho⟩ => h4 ⟨o, fun ho' => ho (hO b o (Array.getElem?_eq_some_iff.1 hb).1 ho')⟩, h5⟩,
    fun b x hb hx => let ⟨x', h1, h2, h3⟩ := h.obj b x hb hx
      ⟨x', h1, h2, fun ⟨o, ho⟩ => h3 ⟨o, fun ho' => ho (hO b o (Array.getElem?_eq_some_iff.1 hb).1 ho')⟩⟩⟩

theorem Kept.trans {O O' : Nat → Nat → Prop} {w w1 w2 : World} (h : Kept O w w1) (h' : Kept O' w1 w2) (hO : ∀ b o, b < w.heap.size → O' b o → O b o) : Kept O w w2 := by
  refine ⟨Nat.le_trans h.size h'.size, h'.out.trans h.out, h'.os.trans h.os, h'.tape.trans h.tape, ?_, ?_⟩
  · intro b c t fz hb
    have hlt := (Array.getElem?_eq_some_iff.1 hb).1
    obtain ⟨c1, fz1, h1, hs1, hc1, hf1, hk1⟩ := h.row b c t fz hb
    obtain ⟨c2, fz2, h2, hs2, hc2, hf2, hk2⟩ := h'.row b c1 t fz1 h1
    exact ⟨c2, fz2, h2, hs2.trans hs1, fun o ho => (hc2 o fun ho' => ho (hO b o hlt ho')).trans (hc1 o ho), fun ⟨o, ho⟩ => (hf2 ⟨o, fun ho' => ho (hO b o hlt ho')⟩).trans (hf1 ⟨o, ho⟩), fun h0 => by have := hk2 (by rw [hs1]; exact hk1 h0); rw [hs1] at this; exact this⟩
  · intro b x hb hx
    have hlt := (Array.getElem?_eq_some_iff.1 hb).1
    obtain ⟨x1, h1, hx1, he1⟩ := h.obj b x hb hx
    obtain ⟨x2, h2, hx2, he2⟩ := h'.obj b x1 h1 hx1
    exact ⟨x2, h2, hx2, fun ⟨o, ho⟩ => (he2 ⟨o, fun ho' => ho (hO b o hlt ho')⟩).trans (he1 ⟨o, ho⟩)⟩

theorem Kept.cells {O : Nat → Nat → Prop} {w w' : World} (h : Kept O w w') {b : Nat} {c : Array Value} {t : Nat} {fz : Nat × Nat}
    (hb : w.heap[b]? = some (.cells c t fz)) (hO : ∀ o, ¬ O b o) : w'.heap[b]? = some (.cells c t fz) := by
  obtain ⟨c', fz', h1, hs, hc, hf, _⟩ := h.row b c t fz hb
  have hfz := hf ⟨0, hO 0⟩
  subst hfz
  have : c' = c := by
    apply Array.ext hs
    intro i h1 h2
    have := hc i (hO i)
    rw [Array.getElem?_eq_getElem h1, Array.getElem?_eq_getElem h2] at this
    exact Option.some.inj this
  rw [h1, this]

theorem Kept.cell {O : Nat → Nat → Prop} {w w' : World} (h : Kept O w w') {b o : Nat} {v : Value} (hb : cellAt w b o = some v) (hO : ¬ O b o) : cellAt w' b o = some v := by
  obtain ⟨c, t, fz, hc, hv⟩ := cellAt_some hb
  obtain ⟨c', fz', h1, hs, hcc, _⟩ := h.row b c t fz hc
  rw [cellAt_of h1, hcc o hO, hv]

theorem Kept.same {O : Nat → Nat → Prop} {w w' : World} (h : Kept O w w') {b : Nat} {x : Obj} (hb : w.heap[b]? = some x) (hx : isCells x = false) (hO : ∃ o, ¬ O b o) : w'.heap[b]? = some x := by
  obtain ⟨x', h1, _, h3⟩ := h.obj b x hb hx
  rw [h1, h3 hO]

theorem Kept.cellsOK {O : Nat → Nat → Prop} {w w' : World} (h : Kept O w w') {b : Nat} {cs : List Value} (hb : CellsOK w b cs) (hO : ∀ o, ¬ O b o) : CellsOK w' b cs := by
  obtain ⟨c, te, fz, hc, hu, rfl⟩ := hb
  exact ⟨c, te, fz, h.cells hc hO, hu, rfl⟩

theorem Kept.shape {O : Nat → Nat → Prop} {w w' : World} (h : Kept O w w') {b : Nat} {cs : List Value} (hb : CellsOK w b cs) : ∃ cs', CellsOK w' b cs' ∧ cs'.length = cs.length := by
  obtain ⟨c, te, fz, hc, hu, rfl⟩ := hb
  obtain ⟨c', fz', h1, hs, hcc, _, hk⟩ := h.row b c te fz hc
  exact ⟨c'.toList, ⟨c', te, fz', h1, by rw [hs]; exact hk hu, rfl⟩, by simp [hs]⟩

/-! ### Slots abide -/
theorem FrOK.mono {X : Tb} {E E' : Env} (h : E.le E') {fr : List AV} {tmps : Array Value} (hf : FrOK X E fr tmps) : FrOK X E' fr tmps :=
  ⟨hf.1, fun i hi => RV.mono h (hf.2 i hi)⟩

theorem LoopOK.mono {X : Tb} {P : Program} {E E' : Env} (h : E.le E') {L : ALoop} {r : Loop} (hl : LoopOK X P E L r) : LoopOK X P E' L r :=
  ⟨hl.state, hl.pend, hl.fn, hl.ps, hl.fr.mono h, hl.code, by obtain ⟨g, hg, hle⟩ := h.ρ _ _ hl.df; simp only [Gh.le] at hle; subst hle; exact hg⟩

theorem MapOK.mono {X : Tb} {E E' : Env} (h : E.le E') {m : List (D × AV)} {es : Array MapEntry} (hm : MapOK X E m es) : MapOK X E' m es :=
  ⟨hm.1, fun i e kv he hk => let ⟨h1, h2⟩ := hm.2 i e kv he hk; ⟨RV0.mono h h1, RV0.mono h h2⟩⟩

theorem SlotOK.mono {X : Tb} {P : Program} {E E' : Env} (h : E.le E') {g : Gh} {o : AO} {w : World} (hs : SlotOK X P E g o w) : SlotOK X P E' g o w := by
  cases g <;> cases o <;> simp only [SlotOK] at hs ⊢
  · obtain ⟨h1, h2, cs, h3, h4⟩ := hs; exact ⟨h1, h2, cs, h3, R.mono h _ _ h4⟩
  · obtain ⟨h1, h2, h3, h4, h5, cs, ds, h6, h7, h8⟩ := hs; exact ⟨h1, h2, h3, h4, h5, cs, ds, h6, SqR.mono h.Γ _ _ h7, h8⟩
  · exact hs
  · obtain ⟨es, c, h1, h2⟩ := hs; exact ⟨es, c, h1, h2.mono h⟩
  · obtain ⟨r, h1, h2⟩ := hs; exact ⟨r, h1, h2.mono h⟩
  · exact hs

/-- A slot whose own cells have not changed. -/
theorem SlotOK.kept {X : Tb} {P : Program} {E : Env} {g : Gh} {o : AO} {w w' : World} {O : Nat → Nat → Prop} (hs : SlotOK X P E g o w)
    (h : Kept O w w') (hO : ∀ b x, own g b x → ¬ O b x) : SlotOK X P E g o w' := by
  cases g <;> cases o <;> simp only [SlotOK] at hs ⊢
  · obtain ⟨h1, h2, cs, h3, h4⟩ := hs; exact ⟨h1, h2, cs, h.cellsOK h3 fun x => hO _ x rfl, h4⟩
  · obtain ⟨h1, h2, h3, h4, h5, cs, ds, h6, h7⟩ := hs; exact ⟨h1, h2, h3, h4, h5, cs, ds, h.cellsOK h6 fun x => hO _ x rfl, h7⟩
  · refine ⟨hs.1, fun b lo hi hτ => ?_⟩
    obtain ⟨cs, h1, h2⟩ := hs.2 b lo hi hτ
    obtain ⟨cs', h3, h4⟩ := h.shape h1
    exact ⟨cs', h3, by omega⟩
  · obtain ⟨es, c, h1, h2⟩ := hs; exact ⟨es, c, h.same h1 rfl ⟨0, hO _ 0 rfl⟩, h2⟩
  · obtain ⟨r, h1, h2⟩ := hs; exact ⟨r, h.same h1 rfl ⟨0, hO _ 0 rfl⟩, h2⟩
  · exact h.same hs rfl ⟨0, hO _ 0 rfl⟩

/-- What a run does to memory. -/
structure Ext (E : Env) (w : World) (E' : Env) (w' : World) : Prop where
  le : E.le E'
  kept : Kept (Own E.ρ) w w'
  own : ∀ b o, Own E'.ρ b o → Own E.ρ b o ∨ w.heap.size ≤ b
  fast : ∀ b o v, E'.Γ b o = some v → E.Γ b o = some v ∨ Own E.ρ b o ∨ w.heap.size ≤ b

theorem Ext.refl (E : Env) (w : World) : Ext E w E w := ⟨.refl E, .refl _ w, fun _ _ h => .inl h, fun _ _ _ h => .inl h⟩

theorem Ext.trans {E E1 E2 : Env} {w w1 w2 : World} (h : Ext E w E1 w1) (h' : Ext E1 w1 E2 w2) : Ext E w E2 w2 := by
  refine ⟨h.le.trans h'.le, h.kept.trans h'.kept ?_, ?_, ?_⟩
  · intro b o hb ho
    rcases h.own b o ho with h1 | h1
    · exact h1
    · omega
  · intro b o ho
    rcases h'.own b o ho with h1 | h1
    · exact h.own b o h1
    · exact .inr (Nat.le_trans h.kept.size h1)
  · intro b o v hv
    rcases h'.fast b o v hv with h1 | h1 | h1
    · exact h.fast b o v h1
    · exact .inr (h.own b o h1)
    · exact .inr (.inr (Nat.le_trans h.kept.size h1))

/-- A draw changes nothing that is told. -/
theorem Kept.of_heap {O : Nat → Nat → Prop} {w w' : World} (h : w'.heap = w.heap) (ho : w'.output = w.output) (hos : w'.os = w.os) (ht : w'.tape = w.tape) : Kept O w w' :=
  ⟨by rw [h]; exact Nat.le_refl _, ho, hos, ht, fun b c t fz hb => ⟨c, fz, by rw [h]; exact hb, rfl, fun _ _ => rfl, fun _ => rfl, fun h => h⟩, fun b x hb hx => ⟨x, by rw [h]; exact hb, hx, fun _ => rfl⟩⟩

theorem Inv.of_heap {X : Tb} {P : Program} {E : Env} {V : List AO} {w w' : World} (hi : Inv X P E V w) (h : w'.heap = w.heap) : Inv X P E V w' := by
  have hc : ∀ b o, cellAt w' b o = cellAt w b o := fun b o => by simp [cellAt, World.cell?, h]
  refine ⟨hi.len, ?_, hi.lone, fun b o v hv => by rw [hc]; exact hi.fast b o v hv, hi.free, fun b o ho => by rw [h]; exact hi.old b o ho, hi.glob⟩
  intro r g o hg ho
  have := hi.slot r g o hg ho
  cases g <;> cases o <;> simp only [SlotOK, CellsOK, h] at this ⊢ <;> exact this

end Go.Sk
