/- Parts of the proof of TopCommandsProof: RenLib RenOp. -/
import Derived.Test.YtdkpbobglogmoaaGreatTk1
set_option linter.unusedVariables false
set_option linter.unusedSimpArgs false
set_option maxRecDepth 100000
set_option maxHeartbeats 32000000
namespace Go.Proofs.YtdkpbobglogmoaaGreat
open Go
namespace Ren
def EqR {α : Type} (_ : Rel) (a b : α) : Prop := a = b
def UR (_ : Rel) (_ _ : Unit) : Prop := True
inductive VLs (R : Rel) : List Value → List Value → Prop
  | nil : VLs R [] []
  | cons {v w : Value} {l m : List Value} : VR R v w → VLs R l m → VLs R (v :: l) (w :: m)
theorem VLs.mono {R S : Rel} (h : R.Le S) {l m : List Value} (x : VLs R l m) : VLs S l m := by
  induction x with
  | nil => exact .nil
  | cons a _ ih => exact .cons (a.mono h) ih
theorem VLs.of {R : Rel} : ∀ {l m : List Value}, l.length = m.length → (∀ (i : Nat) v w, l[i]? = some v → m[i]? = some w → VR R v w) → VLs R l m
  | [], [], _, _ => .nil
  | [], _ :: _, h, _ => by simp at h
  | _ :: _, [], h, _ => by simp at h
  | v :: l, w :: m, h, k => .cons (k 0 v w rfl rfl) (VLs.of (by simpa using h) fun i a b ea eb => k (i + 1) a b (by simpa using ea) (by simpa using eb))
theorem VsR.list {R : Rel} {c d : Array Value} (h : VsR R c d) : VLs R c.toList d.toList := VLs.of (by simp [h.1]) fun i a b ea eb => h.2 i a b (by simpa using ea) (by simpa using eb)
theorem VLs.length {R : Rel} {l m : List Value} (x : VLs R l m) : l.length = m.length := by
  induction x with
  | nil => rfl
  | cons _ _ ih => simp [ih]
theorem VLs.at_ {R : Rel} {l m : List Value} (x : VLs R l m) : ∀ (i : Nat) v w, l[i]? = some v → m[i]? = some w → VR R v w := by
  induction x with
  | nil => intro i v w e; simp at e
  | cons a _ ih =>
    intro i v w e f
    cases i with
    | zero => simp at e f; subst e f; exact a
    | succ i => exact ih i v w (by simpa using e) (by simpa using f)
theorem VLs.array {R : Rel} {l m : List Value} (x : VLs R l m) : VsR R l.toArray m.toArray := ⟨by simp [x.length], fun i v w e f => x.at_ i v w (by simpa using e) (by simpa using f)⟩
def ZeroOk (P : Program) (t : TypeId) : Prop := ∀ i v, P.info? t = some i → i.zero = some v → ∀ R, VR R v v
def ElemOk (P : Program) (t : TypeId) : Prop := ∀ e, P.underlying t = some (.slice e) → ZeroOk P e
section
variable {P : Program} {Z : Env} {R : Rel} {α β : Type} {A : Rel → α → β → Prop}
theorem sim_bind {γ δ : Type} {B : Rel → γ → δ → Prop} {s : Sem α} {s' : Sem β} {k : α → Sem γ} {k' : β → Sem δ}
    (h : SimS P Z A R s s') (hk : ∀ R1, R.Le R1 → ∀ a b, A R1 a b → SimS P Z B R1 (k a) (k' b)) : SimS P Z B R (s >>= k) (s' >>= k') := SimS.bind h hk
theorem sim_pure {a : α} {b : β} (h : ∀ R1, R.Le R1 → A R1 a b) : SimS P Z A R (pure a) (pure b) := SimS.pure h
theorem sim_stuck {s' : Sem β} {m : String} : SimS P Z A R (stuck m : Sem α) s' := SimS.dead trivial
theorem sim_unsupported {s' : Sem β} {u : Unsupported} (h : Dull (.unsupported u)) : SimS P Z A R (unsupported u : Sem α) s' := SimS.dead h
theorem sim_same {γ δ : Type} {B : Rel → γ → δ → Prop} {s : Sem α} {k : α → Sem γ} {k' : α → Sem δ} {K : α → Prop}
    (h : SimS P Z (fun _ a b => a = b ∧ K a) R s s) (hk : ∀ R1, R.Le R1 → ∀ a, K a → SimS P Z B R1 (k a) (k' a)) : SimS P Z B R (s >>= k) (s >>= k') :=
  sim_bind h fun R1 h1 a b ⟨e, ka⟩ => by subst e; exact hk R1 h1 a ka
theorem sim_load {m : Mode} {a b : Addr} (x : AR R a b) : SimS P Z VR R (Go.load a m) (Go.load b m) := SimS.load x fun R1 h1 v u hv => SimS.pure fun R2 h2 => hv.mono h2
theorem sim_store {m : Mode} {a b : Addr} (x : AR R a b) {v u : Value} (hv : VR R v u) : SimS P Z UR R (Go.store a v m) (Go.store b u m) := SimS.store x hv (SimS.pure fun _ _ => trivial)
theorem sim_newObj {o p : Obj} (x : OR R o p) : SimS P Z (fun R1 a b => R1 a b) R (newObj o) (newObj p) := SimS.new x fun R1 h1 a b ab => SimS.pure fun R2 h2 => h2 _ _ ab
theorem sim_shape {a b : Nat} (x : R a b) : SimS P Z EqR R (Go.shape a) (Go.shape b) := SimS.shape x fun s => SimS.pure fun _ _ => rfl
theorem sim_program : SimS P Z (fun _ a b => a = b ∧ a = P) R Go.program Go.program := SimS.program (SimS.pure fun _ _ => ⟨rfl, rfl⟩)
theorem sim_choose (q : Question) : SimS P Z (fun _ a b => a = b ∧ True) R (Go.choose q) (Go.choose q) := SimS.choose q fun n => SimS.pure fun _ _ => ⟨rfl, trivial⟩
theorem sim_mark {m : Mark} (hm : (∃ f, m = .extern f) ∨ m = .noRoom) : SimS P Z UR R (Go.mark m) (Go.mark m) := SimS.mark hm (SimS.pure fun _ _ => trivial)
theorem sim_getObj {a b : Nat} (x : R a b) : SimS P Z OR R (Go.getObj a) (Go.getObj b) := SimS.getObj x fun R1 h1 o p hop => SimS.pure fun R2 h2 => hop.mono h2
theorem sim_setObj {a b : Nat} (x : R a b) {o p : Obj} (hop : OR R o p) : SimS P Z UR R (Go.setObj a o) (Go.setObj b p) := SimS.setObj x hop (SimS.pure fun _ _ => trivial)
theorem sim_askRoom (n : Nat) : SimS P Z UR R (askRoom n) (askRoom n) := by
  unfold askRoom
  split
  · exact sim_mark (.inr rfl)
  · exact SimS.pure fun _ _ => trivial
theorem sim_typeInfo (t : TypeId) : SimS P Z (fun _ a b => a = b ∧ P.info? t = some a) R (typeInfo t) (typeInfo t) := by
  unfold typeInfo
  refine sim_same sim_program fun R1 h1 p hp => ?_
  subst hp
  split
  · rename_i i e; exact sim_pure fun _ _ => ⟨rfl, e⟩
  · exact sim_stuck
theorem sim_underlying (t : TypeId) : SimS P Z (fun _ a b => a = b ∧ P.underlying t = some a) R (underlying t) (underlying t) := by
  unfold underlying
  refine sim_same sim_program fun R1 h1 p hp => ?_
  subst hp
  split
  · rename_i i e; exact sim_pure fun _ _ => ⟨rfl, e⟩
  · exact sim_stuck
theorem sim_sizeOf (t : TypeId) : SimS P Z (fun _ a b => a = b ∧ ∃ i, P.info? t = some i ∧ a = i.size) R (sizeOf t) (sizeOf t) := by
  unfold sizeOf
  exact sim_same (sim_typeInfo t) fun R1 h1 i hi => sim_pure fun _ _ => ⟨rfl, i, hi, rfl⟩
theorem sim_isAgg (t : TypeId) : SimS P Z (fun _ a b => a = b ∧ True) R (isAgg t) (isAgg t) := by
  unfold isAgg
  refine sim_same (sim_underlying t) fun R1 h1 d hd => ?_
  split <;> exact sim_pure fun _ _ => ⟨rfl, trivial⟩
theorem sim_zeroValue {t : TypeId} (hz : ZeroOk P t) : SimS P Z VR R (zeroValue t) (zeroValue t) := by
  unfold zeroValue
  refine sim_same (sim_typeInfo t) fun R1 h1 i hi => ?_
  split
  · rename_i v e; exact sim_pure fun R2 _ => hz i v hi e R2
  · exact sim_unsupported trivial
theorem sim_loadCellsFrom : ∀ (n i : Nat) {R : Rel} {a b : Addr} {c d : Array Value}, AR R a b → VsR R c d → SimS P Z VsR R (loadCellsFrom a i n c) (loadCellsFrom b i n d)
  | 0, i, R, a, b, c, d, x, y => sim_pure fun R1 h1 => y.mono h1
  | n + 1, i, R, a, b, c, d, x, y => by
    unfold loadCellsFrom
    exact sim_bind (sim_load (x.add i)) fun R1 h1 v w hv => sim_loadCellsFrom n (i + 1) (x.mono h1) ((y.mono h1).push hv)
theorem sim_loadCells {a b : Addr} (x : AR R a b) (n : Nat) : SimS P Z VsR R (loadCells a n) (loadCells b n) := sim_loadCellsFrom n 0 x .empty
theorem sim_storeCells : ∀ {l m : List Value} (i : Nat) {R : Rel} {a b : Addr}, VLs R l m → AR R a b → SimS P Z UR R (storeCells a l i) (storeCells b m i)
  | _, _, i, R, a, b, .nil, x => sim_pure fun _ _ => trivial
  | _, _, i, R, a, b, .cons hv hl, x => by
    unfold storeCells
    exact sim_bind (sim_store (x.add i) hv) fun R1 h1 _ _ _ => sim_storeCells (i + 1) (hl.mono h1) (x.mono h1)
theorem sim_loadVar (t : TypeId) {a b : Addr} (x : AR R a b) : SimS P Z VR R (loadVar t a) (loadVar t b) := by
  unfold loadVar
  refine sim_same (sim_isAgg t) fun R1 h1 g _ => ?_
  cases g with
  | true =>
    simp only [if_true]
    exact sim_same (sim_sizeOf t) fun R2 h2 n _ => sim_bind (sim_loadCells ((x.mono h1).mono h2) n) fun R3 h3 c d hcd => sim_pure fun R4 h4 => .agg hcd.1 (hcd.mono h4).2
  | false => exact sim_load (x.mono h1)
theorem sim_storeVar (t : TypeId) {a b : Addr} (x : AR R a b) {v u : Value} (hv : VR R v u) : SimS P Z UR R (storeVar t a v) (storeVar t b u) := by
  unfold storeVar
  refine sim_same (sim_sizeOf t) fun R1 h1 n _ => ?_
  have e := hv.cells.1
  rw [← e]
  split
  · exact sim_bind (A := UR) sim_stuck fun R2 h2 _ _ _ => sim_storeCells 0 (((hv.mono h1).mono h2).cells.list) ((x.mono h1).mono h2)
  · exact sim_storeCells 0 ((hv.mono h1).cells.list) (x.mono h1)
theorem sim_newRow (t : TypeId) {c d : Array Value} (h : VsR R c d) : SimS P Z AR R (newRow t c) (newRow t d) := by
  unfold newRow
  exact sim_bind (sim_newObj (.cells t h fun _ y => by simp at y)) fun R1 h1 a b hab => sim_pure fun R2 h2 => ⟨h2 _ _ hab, rfl, rfl⟩
theorem sim_newVar (t : TypeId) {v u : Value} (h : VR R v u) : SimS P Z AR R (newVar t v) (newVar t u) := sim_newRow t h.cells
theorem sim_part (t : TypeId) {c d : Array Value} (h : VsR R c d) (o : Nat) : SimS P Z VR R (part t c o) (part t d o) := by
  unfold part
  refine sim_same (sim_isAgg t) fun R1 h1 g _ => ?_
  cases g with
  | true =>
    simp only [if_true]
    refine sim_same (sim_sizeOf t) fun R2 h2 n _ => sim_pure fun R3 h3 => ?_
    have := (((h.mono h1).mono h2).mono h3).extract o (o + n)
    exact .agg this.1 this.2
  | false =>
    simp only [Bool.false_eq_true, if_false]
    cases e : c[o]? with
    | none => exact sim_stuck
    | some v =>
      obtain ⟨w, e2, hw⟩ := h.at_ e
      rw [e2]
      exact sim_pure fun R2 h2 => (hw.mono h1).mono h2
def Mild : RuntimeError → Prop
  | .bounds .. | .error _ | .plain _ | .nilDeref => True
  | _ => False
theorem VsR.plain : ∀ {R : Rel} {l : List Value}, (∀ v ∈ l, VR R v v) → VsR R l.toArray l.toArray := by
  intro R l h
  refine ⟨rfl, fun i v w e f => ?_⟩
  rw [e] at f
  cases f
  exact h v (by simp at e; exact List.mem_of_getElem? e)
theorem sim_runtimePanic {e : RuntimeError} (h : Mild e) : SimS P Z A R (runtimePanic e : Sem α) (runtimePanic e : Sem β) := by
  unfold runtimePanic
  refine sim_same sim_program fun R1 h1 p hp => ?_
  cases e with
  | bounds x y s c =>
    refine SimS.panic (.iface _ ?_)
    have : VsR R1 (#[.int .i64 x, .int .i64 y, .bool s, .int .u8 c.toNat] : Array Value) #[.int .i64 x, .int .i64 y, .bool s, .int .u8 c.toNat] := VsR.plain (l := [.int .i64 x, .int .i64 y, .bool s, .int .u8 c.toNat]) (by
      intro v hv
      simp at hv
      rcases hv with rfl | rfl | rfl | rfl
      · exact .int _ _
      · exact .int _ _
      · exact .bool _
      · exact .int _ _)
    exact .agg this.1 this.2
  | error m => exact SimS.panic (.iface _ (.string _))
  | plain m => exact SimS.panic (.iface _ (.string _))
  | nilDeref => exact SimS.panic (.iface _ (.string _))
  | typeAssertion => exact h.elim
  | panicNil => exact h.elim
  | unhashable => exact h.elim
theorem sim_map {γ : Type} {s : Sem α} {f : α → γ} (h : SimS P Z (fun _ a b => a = b ∧ True) R s s) : SimS P Z (fun _ a b => a = b ∧ True) R (f <$> s) (f <$> s) :=
  sim_same h fun R1 h1 a _ => sim_pure fun _ _ => ⟨rfl, trivial⟩
theorem sim_boundsPanic (k : IntKind) (x y : Int) (c : BoundsCode) : SimS P Z A R (boundsPanic k x y c : Sem α) (boundsPanic k x y c : Sem β) := by
  unfold boundsPanic
  dsimp only
  split
  · exact sim_same (sim_map (sim_choose _)) fun R1 h1 s _ => sim_runtimePanic (e := .bounds _ _ _ _) trivial
  · exact sim_same (K := fun _ => True) (sim_pure fun _ _ => ⟨rfl, trivial⟩) fun R1 h1 s _ => sim_runtimePanic (e := .bounds _ _ _ _) trivial
theorem sim_asIntOf {v u : Value} (h : VR R v u) : SimS P Z (fun _ a b => a = b ∧ True) R (asIntOf v) (asIntOf u) := by
  cases h with
  | int k n => exact sim_pure fun _ _ => ⟨rfl, trivial⟩
  | ptr a => exact sim_unsupported trivial
  | _ => exact sim_stuck
theorem sim_asInt {v u : Value} (h : VR R v u) : SimS P Z (fun _ a b => a = b ∧ True) R (asInt v) (asInt u) := by
  unfold asInt
  refine sim_bind (sim_asIntOf h) fun R1 h1 a b e => ?_
  obtain ⟨rfl, _⟩ := e
  exact sim_pure fun _ _ => ⟨rfl, trivial⟩
theorem sim_asBool {v u : Value} (h : VR R v u) : SimS P Z (fun _ a b => a = b ∧ True) R (asBool v) (asBool u) := by
  cases h with
  | bool b => exact sim_pure fun _ _ => ⟨rfl, trivial⟩
  | _ => exact sim_stuck
theorem sim_asAgg {v u : Value} (h : VR R v u) : SimS P Z VsR R (asAgg v) (asAgg u) := by
  cases h with
  | agg e k => exact sim_pure fun R1 h1 => VsR.mono h1 ⟨e, k⟩
  | _ => exact sim_stuck
theorem sim_asAddr {v u : Value} (h : VR R v u) : SimS P Z AR R (asAddr v) (asAddr u) := by
  cases h with
  | ptr a => exact sim_pure fun R1 h1 => a.mono h1
  | ptr0 => exact sim_runtimePanic (e := .nilDeref) trivial
  | _ => exact sim_stuck
theorem sim_sureAddr {v u : Value} (h : VR R v u) : SimS P Z AR R (Instr.sureAddr v) (Instr.sureAddr u) := by
  cases h with
  | ptr a => exact sim_pure fun R1 h1 => a.mono h1
  | _ => exact sim_stuck
end
end Ren
end Go.Proofs.YtdkpbobglogmoaaGreat
namespace Go.Proofs.YtdkpbobglogmoaaGreat
open Go
namespace Ren
section
variable {P : Program} {Z : Env} {R : Rel} {α β : Type} {A : Rel → α → β → Prop}
theorem sim_alloc {t : TypeId} (hz : ZeroOk P t) : SimS P Z VR R (Instr.alloc t true (.tuple #[])) (Instr.alloc t true (.tuple #[])) := by
  unfold Instr.alloc
  refine sim_bind (sim_zeroValue hz) fun R1 h1 v u hv => ?_
  exact sim_bind (sim_newVar t hv) fun R2 h2 a b hab => sim_pure fun R3 h3 => .ptr (hab.mono h3)
theorem sim_box (t : TypeId) {v u : Value} (h : VR R v u) : SimS P Z VR R (Instr.box t v) (Instr.box t u) :=
  sim_bind (sim_newVar t h) fun R2 h2 a b hab => sim_pure fun R3 h3 => .ptr (hab.mono h3)
inductive PsR (R : Rel) : List (Nat × Value) → List (Nat × Value) → Prop
  | nil : PsR R [] []
  | cons (i : Nat) {v u : Value} {l m : List (Nat × Value)} : VR R v u → PsR R l m → PsR R ((i, v) :: l) ((i, u) :: m)
theorem PsR.mono {R S : Rel} (h : R.Le S) {l m : List (Nat × Value)} (x : PsR R l m) : PsR S l m := by
  induction x with
  | nil => exact .nil
  | cons i a _ ih => exact .cons i (a.mono h) ih
theorem zipfold {R : Rel} : ∀ {l m : List Value} (k off : Nat) {c d : Array Value}, VLs R l m → VsR R c d →
    VsR R ((l.zipIdx k).foldl (fun cs (x : Value × Nat) => cs.setIfInBounds (off + x.2) x.1) c) ((m.zipIdx k).foldl (fun cs (x : Value × Nat) => cs.setIfInBounds (off + x.2) x.1) d)
  | _, _, k, off, c, d, .nil, h => h
  | _, _, k, off, c, d, .cons hv hl, h => by
    simp only [List.zipIdx_cons, List.foldl_cons]
    exact zipfold (k + 1) off hl (h.set _ hv)
theorem zipfold_array {R : Rel} {v u c d : Array Value} (off : Nat) (h : VsR R v u) (h' : VsR R c d) :
    VsR R (v.zipIdx.foldl (fun cs (x : Value × Nat) => cs.setIfInBounds (off + x.2) x.1) c) (u.zipIdx.foldl (fun cs (x : Value × Nat) => cs.setIfInBounds (off + x.2) x.1) d) := by
  have := zipfold 0 off h.list h'
  rw [← Array.foldl_toList, ← Array.foldl_toList]
  simpa using this
theorem fill_alike {R : Rel} (place : Nat → Option (Nat × Nat)) : ∀ {l m : List (Nat × Value)} {c d : Array Value}, PsR R l m → VsR R c d →
    (Instr.fill place c l = none ∧ Instr.fill place d m = none) ∨ ∃ c' d', Instr.fill place c l = some c' ∧ Instr.fill place d m = some d' ∧ VsR R c' d'
  | _, _, c, d, .nil, h => .inr ⟨c, d, rfl, rfl, h⟩
  | _, _, c, d, .cons (v := v) (u := u) i hv hl, h => by
    unfold Instr.fill
    cases place i with
    | none => exact .inl ⟨rfl, rfl⟩
    | some p =>
      obtain ⟨off, size⟩ := p
      dsimp only
      have e := hv.cells.1
      rw [← e, ← h.1]
      split
      · exact .inl ⟨rfl, rfl⟩
      · exact fill_alike place hl (zipfold_array off hv.cells h)
theorem sim_places (fs : Array Field) : SimS P Z (fun _ a b => a = b ∧ True) R (fs.mapM fun f => do pure (f.offset, ← sizeOf f.type)) (fs.mapM fun f => do pure (f.offset, ← sizeOf f.type) : Sem (Array (Nat × Nat))) := by
  have key : ∀ (l : List Field) {R : Rel}, SimS P Z (fun _ a b => a = b ∧ True) R (l.mapM fun f => do pure (f.offset, ← sizeOf f.type)) (l.mapM fun f => do pure (f.offset, ← sizeOf f.type) : Sem (List (Nat × Nat))) := by
    intro l
    induction l with
    | nil => intro R; exact sim_pure fun _ _ => ⟨rfl, trivial⟩
    | cons f l ih =>
      intro R
      rw [List.mapM_cons]
      refine sim_same (K := fun _ => True) ?_ fun R1 h1 a _ => sim_same ih fun R2 h2 b _ => sim_pure fun _ _ => ⟨rfl, trivial⟩
      exact sim_same (sim_sizeOf f.type) fun R1 h1 n _ => sim_pure fun _ _ => ⟨rfl, trivial⟩
  rw [Array.mapM_eq_mapM_toList]
  exact sim_map (key _)
theorem sim_build {t : TypeId} (hz : ZeroOk P t) {l m : Array (Nat × Value)} (h : PsR R l.toList m.toList) : SimS P Z VR R (Instr.build t l) (Instr.build t m) := by
  unfold Instr.build
  refine sim_bind (sim_zeroValue hz) fun R1 h1 v u hv => sim_same (sim_underlying t) fun R2 h2 d hd => ?_
  split
  · rename_i fs
    refine sim_same (sim_places fs) fun R3 h3 ps _ => ?_
    rcases fill_alike (ps[·]?) (((h.mono h1).mono h2).mono h3) ((hv.mono h2).mono h3).cells with ⟨e1, e2⟩ | ⟨c, d, e1, e2, e3⟩
    · rw [e1, e2]; exact sim_stuck
    · rw [e1, e2]; exact sim_pure fun R4 h4 => .agg e3.1 (e3.mono h4).2
  · rename_i n elem
    refine sim_same (sim_sizeOf elem) fun R3 h3 size _ => ?_
    rcases fill_alike (fun i => some (i * size, size)) (((h.mono h1).mono h2).mono h3) ((hv.mono h2).mono h3).cells with ⟨e1, e2⟩ | ⟨c, d, e1, e2, e3⟩
    · rw [e1, e2]; exact sim_stuck
    · rw [e1, e2]; exact sim_pure fun R4 h4 => .agg e3.1 (e3.mono h4).2
  · exact sim_stuck
theorem VsR.range {R : Rel} {c d : Array Value} (h : VsR R c d) (n : Nat) : VsR R ((Array.range n).map (c[· % c.size]!)) ((Array.range n).map (d[· % d.size]!)) := by
  refine ⟨by simp, fun i v w e f => ?_⟩
  simp only [Array.getElem?_map, Option.map_eq_some_iff] at e f
  obtain ⟨j, hj, rfl⟩ := e
  obtain ⟨j', hj', rfl⟩ := f
  rw [hj] at hj'
  cases hj'
  rw [← h.1]
  by_cases hs : j % c.size < c.size
  · have e1 : c[j % c.size]? = some c[j % c.size]! := by simp [hs]
    have e2 : d[j % c.size]? = some d[j % c.size]! := by rw [getElem!_pos d _ (h.1 ▸ hs)]; exact Array.getElem?_eq_getElem _
    exact h.2 _ _ _ e1 e2
  · have e1 : c[j % c.size]! = default := getElem!_neg c _ hs
    have e2 : d[j % c.size]! = default := getElem!_neg d _ (by rw [← h.1]; exact hs)
    rw [e1, e2]
    exact .bool _
theorem VsR.zeroCells {R : Rel} {c d : Array Value} (h : VsR R c d) (n : Nat) : VsR R (Builtin.zeroCells c n) (Builtin.zeroCells d n) := by
  unfold Builtin.zeroCells
  have := h.range (n * c.size)
  rw [← h.1] at this ⊢
  exact this
theorem sim_buildSlice {t : TypeId} (hz : ElemOk P t) (n : Nat) {l m : Array (Nat × Value)} (h : PsR R l.toList m.toList) : SimS P Z VR R (Instr.buildSlice t n l) (Instr.buildSlice t n m) := by
  unfold Instr.buildSlice
  refine sim_same (sim_underlying t) fun R1 h1 d hd => ?_
  split
  · rename_i elem
    refine sim_same (sim_sizeOf elem) fun R2 h2 size _ => ?_
    have h := (h.mono h1).mono h2
    clear h1 h2
    dsimp only
    have key : ∀ {R3 : Rel}, R2.Le R3 → ∀ {c d : Array Value}, VsR R3 c d → SimS P Z VR R3
        (match Instr.fill (fun i => some (i * size, size)) ((Array.range (n * size)).map (c[· % c.size]!)) l.toList with
          | some cells => do pure (.slice (some (← newRow elem cells)) n n)
          | _ => stuck "buildSlice: a part of the wrong size")
        (match Instr.fill (fun i => some (i * size, size)) ((Array.range (n * size)).map (d[· % d.size]!)) m.toList with
          | some cells => do pure (.slice (some (← newRow elem cells)) n n)
          | _ => stuck "buildSlice: a part of the wrong size") := by
      intro R3 h3 c d hcd
      rcases fill_alike (fun i => some (i * size, size)) (h.mono h3) (hcd.range (n * size)) with ⟨e1, e2⟩ | ⟨c', d', e1, e2, e3⟩
      · rw [e1, e2]; exact sim_stuck
      · rw [e1, e2]; exact sim_bind (sim_newRow elem e3) fun R4 h4 a b hab => sim_pure fun R5 h5 => .slice _ _ (hab.mono h5)
    split
    · exact sim_bind (A := UR) (sim_unsupported trivial) fun R3 h3 _ _ _ => by
        split
        · exact sim_bind (sim_pure fun _ _ => VsR.empty) fun R4 h4 c d hcd => key (h3.trans h4) hcd
        · exact sim_bind (sim_zeroValue (hz elem hd)) fun R4 h4 v u hv => key (h3.trans h4) hv.cells
    · split
      · exact sim_bind (sim_pure fun _ _ => VsR.empty) fun R4 h4 c d hcd => key h4 hcd
      · exact sim_bind (sim_zeroValue (hz elem hd)) fun R4 h4 v u hv => key h4 hv.cells
  · exact sim_stuck
theorem sim_loadAt (t : TypeId) {v u : Value} (h : VR R v u) : SimS P Z VR R (Instr.loadAt t v) (Instr.loadAt t u) :=
  sim_bind (sim_sureAddr h) fun R1 h1 a b hab => sim_loadVar t hab
theorem sim_storeAt (t : TypeId) {v u x y : Value} (h : VR R v u) (hx : VR R x y) : SimS P Z UR R (Instr.storeAt t v x) (Instr.storeAt t u y) :=
  sim_bind (sim_sureAddr h) fun R1 h1 a b hab => sim_storeVar t hab (hx.mono h1)
def Fields (P : Program) (s : TypeId) : Prop := ∀ fs, P.underlying s = some (.struct fs) → ∀ (i : Nat) (f : Field), fs[i]? = some f → ∀ inf, P.info? f.type = some inf → inf.size ≠ 0
theorem sim_fieldAt {s : TypeId} (hf : Fields P s) {v u : Value} (h : VR R v u) (i : Nat) : SimS P Z VR R (Instr.fieldAt s v i) (Instr.fieldAt s u i) := by
  unfold Instr.fieldAt
  refine sim_same (sim_underlying s) fun R1 h1 d hd => ?_
  split
  · rename_i fs
    cases e : fs[i]? with
    | none => exact sim_stuck
    | some f =>
      refine sim_bind (sim_sureAddr (h.mono h1)) fun R2 h2 a b hab => ?_
      refine sim_bind (A := AR) ?_ fun R3 h3 a b hab => sim_pure fun R4 h4 => .ptr (hab.mono h4)
      unfold fieldPlace
      refine sim_same (sim_sizeOf f.type) fun R3 h3 n hn => ?_
      obtain ⟨inf, hi, rfl⟩ := hn
      rw [if_neg (hf fs hd i f e inf hi), if_neg (hf fs hd i f e inf hi)]
      exact sim_pure fun R4 h4 => ((hab.mono h3).mono h4).add _
  · exact sim_stuck
theorem sim_indexAt (t : TypeId) {v u x y : Value} (h : VR R v u) (hx : VR R x y) : SimS P Z VR R (Instr.indexAt t v x) (Instr.indexAt t u y) := by
  unfold Instr.indexAt
  refine sim_bind (sim_asIntOf hx) fun R1 h1 ki ki' e => ?_
  obtain ⟨rfl, _⟩ := e
  obtain ⟨k, i⟩ := ki
  dsimp only
  refine sim_same (sim_underlying t) fun R2 h2 d hd => ?_
  have h := (h.mono h1).mono h2
  clear h1 h2 hx
  have last : ∀ {R3 : Rel} (len elem : Nat) (base base' : Option Addr), R2.Le R3 → ((base = none ∧ base' = none) ∨ ∃ a b, base = some a ∧ base' = some b ∧ AR R3 a b) → SimS P Z VR R3
      (do
        let tiny := len ≤ 1 && (match ← underlying t with | .array .. => true | _ => false)
        match base with
        | some a =>
          if 0 ≤ i ∧ i < len then pure (.pointer (some (a.add (i.toNat * (← sizeOf elem)))))
          else if tiny then unsupported (.noEntry "op/indexAddr.an index out of range at an array of length 0 or 1 (ledger 616)")
          else boundsPanic k i len .index
        | none => boundsPanic k i 0 .index)
      (do
        let tiny := len ≤ 1 && (match ← underlying t with | .array .. => true | _ => false)
        match base' with
        | some a =>
          if 0 ≤ i ∧ i < len then pure (.pointer (some (a.add (i.toNat * (← sizeOf elem)))))
          else if tiny then unsupported (.noEntry "op/indexAddr.an index out of range at an array of length 0 or 1 (ledger 616)")
          else boundsPanic k i len .index
        | none => boundsPanic k i 0 .index) := by
    intro R3 len elem base base' h3 hb
    refine sim_same (sim_underlying t) fun R4 h4 d2 hd2 => ?_
    rcases hb with ⟨rfl, rfl⟩ | ⟨a, b, rfl, rfl, hab⟩
    · exact sim_boundsPanic _ _ _ _
    · dsimp only
      split
      · exact sim_same (sim_sizeOf elem) fun R5 h5 n _ => sim_pure fun R6 h6 => .ptr ((((hab.mono h4).mono h5).mono h6).add _)
      · repeat' split
        all_goals first | exact sim_boundsPanic _ _ _ _ | exact sim_unsupported (u := .noEntry _) trivial
  cases d with
  | array len elem => exact sim_bind (sim_sureAddr h) fun R3 h3 a b hab => last _ _ _ _ h3 (.inr ⟨a, b, rfl, rfl, hab⟩)
  | slice elem =>
    cases h with
    | slice0 l c => exact last l elem none none (.refl _) (.inl ⟨rfl, rfl⟩)
    | @slice a b l c hab => exact last l elem (some a) (some b) (.refl _) (.inr ⟨a, b, rfl, rfl, hab⟩)
    | _ => exact SimS.dead (h := .stuck _) trivial
  | _ => exact SimS.dead (h := .stuck _) trivial
inductive OptR (R : Rel) : Option Value → Option Value → Prop
  | none : OptR R none none
  | some {v u : Value} : VR R v u → OptR R (some v) (some u)
theorem OptR.mono {R S : Rel} (h : R.Le S) {l m : Option Value} (x : OptR R l m) : OptR S l m := by
  cases x with
  | none => exact .none
  | some a => exact .some (a.mono h)
theorem sim_sliceBound {v u : Value} (h : VR R v u) (y : Nat) (c : BoundsCode) : SimS P Z (fun _ a b => a = b ∧ True) R (Instr.sliceBound v y c) (Instr.sliceBound u y c) := by
  unfold Instr.sliceBound
  refine sim_bind (sim_asIntOf h) fun R1 h1 a b e => ?_
  obtain ⟨rfl, _⟩ := e
  obtain ⟨k, i⟩ := a
  dsimp only
  split
  · exact sim_pure fun _ _ => ⟨rfl, trivial⟩
  · exact sim_boundsPanic _ _ _ _
theorem sim_sliceBounds (isS : Bool) (len cap : Nat) {lo lo' hi hi' mx mx' : Option Value} (h1 : OptR R lo lo') (h2 : OptR R hi hi') (h3 : OptR R mx mx') :
    SimS P Z (fun _ a b => a = b ∧ True) R (Instr.sliceBounds isS len cap lo hi mx) (Instr.sliceBounds isS len cap lo' hi' mx') := by
  have hm : mx.isSome = mx'.isSome := by cases h3 <;> rfl
  have k1 : ∀ {R1 : Rel} (m h : Nat), R.Le R1 → SimS P Z (fun _ a b => a = b ∧ True) R1
      (match (generalizing := false) lo with
        | some v => do pure ((← Instr.sliceBound v h (if mx.isSome = true then BoundsCode.slice3C else BoundsCode.sliceB)), h, m)
        | none => do pure ((← pure 0), h, m) : Sem (Nat × Nat × Nat))
      (match (generalizing := false) lo' with
        | some v => do pure ((← Instr.sliceBound v h (if mx'.isSome = true then BoundsCode.slice3C else BoundsCode.sliceB)), h, m)
        | none => do pure ((← pure 0), h, m) : Sem (Nat × Nat × Nat)) := by
    intro R1 m h hr
    rw [hm]
    cases h1 with
    | none => exact SimS.pure fun _ _ => ⟨rfl, trivial⟩
    | some x =>
      refine sim_bind (sim_sliceBound (x.mono hr) _ _) fun R2 h2 a b e => ?_
      obtain ⟨rfl, _⟩ := e
      exact sim_pure fun _ _ => ⟨rfl, trivial⟩
  unfold Instr.sliceBounds
  dsimp only
  cases h3 with
  | none =>
    dsimp only
    cases h2 with
    | none => exact k1 cap len (.refl _)
    | some x =>
      refine (sim_bind (sim_sliceBound x cap _) fun R2 h2 a b e => ?_ : SimS P Z (fun _ a b => a = b ∧ True) R (Instr.sliceBound _ cap (if isS = true then BoundsCode.sliceAcap else BoundsCode.sliceAlen) >>= _) (Instr.sliceBound _ cap (if isS = true then BoundsCode.sliceAcap else BoundsCode.sliceAlen) >>= _))
      obtain ⟨rfl, _⟩ := e
      exact k1 _ _ h2
  | some y =>
    dsimp only
    refine sim_bind (sim_sliceBound y _ _) fun R1 hr a b e => ?_
    obtain ⟨rfl, _⟩ := e
    cases h2 with
    | none => exact SimS.dead (h := .stuck _) trivial
    | some x =>
      refine sim_bind (sim_sliceBound (x.mono hr) _ _) fun R2 h2 a b e => ?_
      obtain ⟨rfl, _⟩ := e
      exact k1 _ _ (hr.trans h2)
theorem sim_slice (t : TypeId) {v u : Value} (h : VR R v u) {lo lo' hi hi' mx mx' : Option Value} (h1 : OptR R lo lo') (h2 : OptR R hi hi') (h3 : OptR R mx mx') :
    SimS P Z VR R (Instr.slice t v lo hi mx) (Instr.slice t u lo' hi' mx') := by
  unfold Instr.slice
  refine sim_same (sim_underlying t) fun R1 r1 d hd => ?_
  have h := h.mono r1
  have h1 := h1.mono r1
  have h2 := h2.mono r1
  have h3 := h3.mono r1
  cases d with
  | string =>
    cases h with
    | string s =>
      have hm : mx.isSome = mx'.isSome := by cases h3 <;> rfl
      dsimp only
      rw [hm]
      split
      · exact SimS.dead (h := .stuck _) trivial
      · refine sim_bind (sim_sliceBounds _ _ _ h1 h2 .none) fun R2 r2 a b e => ?_
        obtain ⟨rfl, _⟩ := e
        exact sim_pure fun _ _ => .string _
    | _ => exact sim_stuck
  | slice elem =>
    cases h with
    | slice0 l c =>
      refine sim_bind (sim_sliceBounds _ _ _ h1 h2 h3) fun R2 r2 a b e => ?_
      obtain ⟨rfl, _⟩ := e
      obtain ⟨l', h', m'⟩ := a
      dsimp only
      refine sim_same (sim_sizeOf elem) fun R3 r3 n _ => sim_pure fun R4 r4 => ?_
      simp only [Option.map_none, ite_self]
      exact .slice0 _ _
    | @slice a b l c hab =>
      refine sim_bind (sim_sliceBounds _ _ _ h1 h2 h3) fun R2 r2 x y e => ?_
      obtain ⟨rfl, _⟩ := e
      obtain ⟨l', h', m'⟩ := x
      dsimp only
      refine sim_same (sim_sizeOf elem) fun R3 r3 n _ => sim_pure fun R4 r4 => ?_
      have := ((hab.mono r2).mono r3).mono r4
      by_cases hq : m' = l'
      · simp only [hq, if_true]; exact .slice _ _ this
      · simp only [hq, if_false, Option.map_some]; exact .slice _ _ (this.add _)
    | _ => exact sim_stuck
  | pointer arr =>
    refine sim_bind (sim_asAddr h) fun R2 r2 a b hab => sim_same (sim_underlying arr) fun R3 r3 d2 hd2 => ?_
    split
    · rename_i n elem
      refine sim_bind (sim_sliceBounds _ _ _ ((h1.mono r2).mono r3) ((h2.mono r2).mono r3) ((h3.mono r2).mono r3)) fun R4 r4 x y e => ?_
      obtain ⟨rfl, _⟩ := e
      obtain ⟨l', h', m'⟩ := x
      dsimp only
      refine sim_same (sim_sizeOf elem) fun R5 r5 n _ => sim_pure fun R6 r6 => ?_
      have := (((hab.mono r3).mono r4).mono r5).mono r6
      by_cases hq : m' = l'
      · simp only [hq, if_true]; exact .slice _ _ this
      · simp only [hq, if_false]; exact .slice _ _ (this.add _)
    · exact sim_stuck
  | _ => exact sim_stuck
theorem sim_sliceAt (t : TypeId) {v u : Value} (h : VR R v u) {lo lo' hi hi' mx mx' : Option Value} (h1 : OptR R lo lo') (h2 : OptR R hi hi') (h3 : OptR R mx mx') :
    SimS P Z VR R (Instr.sliceAt t v lo hi mx) (Instr.sliceAt t u lo' hi' mx') := by
  unfold Instr.sliceAt
  refine sim_same (sim_underlying t) fun R1 r1 d hd => ?_
  split
  · rename_i n elem
    refine sim_bind (sim_sureAddr (h.mono r1)) fun R2 r2 a b hab => ?_
    refine sim_bind (sim_sliceBounds _ _ _ ((h1.mono r1).mono r2) ((h2.mono r1).mono r2) ((h3.mono r1).mono r2)) fun R4 r4 x y e => ?_
    obtain ⟨rfl, _⟩ := e
    obtain ⟨l', h', m'⟩ := x
    dsimp only
    refine sim_same (sim_sizeOf elem) fun R5 r5 n _ => sim_pure fun R6 r6 => ?_
    have := ((hab.mono r4).mono r5).mono r6
    by_cases hq : m' = l'
    · simp only [hq, if_true]; exact .slice _ _ this
    · simp only [hq, if_false]; exact .slice _ _ (this.add _)
  · exact sim_slice t (h.mono r1) (h1.mono r1) (h2.mono r1) (h3.mono r1)
theorem sim_lenOf {v u : Value} (h : VR R v u) : SimS P Z (fun _ a b => a = b ∧ True) R (Builtin.lenOf v) (Builtin.lenOf u) := by
  cases h with
  | slice0 l c => exact sim_pure fun _ _ => ⟨rfl, trivial⟩
  | slice l c a => exact sim_pure fun _ _ => ⟨rfl, trivial⟩
  | string s => exact sim_pure fun _ _ => ⟨rfl, trivial⟩
  | _ => exact sim_stuck
theorem sim_firstCells (size n : Nat) {v u : Value} (h : VR R v u) : SimS P Z VsR R (Builtin.firstCells size n v) (Builtin.firstCells size n u) := by
  cases h with
  | slice0 l c => exact sim_pure fun _ _ => .empty
  | slice l c a => exact sim_loadCells a _
  | string s =>
    refine sim_pure fun R1 _ => ⟨rfl, fun i v w e f => ?_⟩
    rw [e] at f
    cases f
    simp only [Array.getElem?_map, Option.map_eq_some_iff] at e
    obtain ⟨b, _, rfl⟩ := e
    exact .int _ _
  | _ => exact sim_stuck
theorem sim_copy (ts : Array TypeId) (t : TypeId) {c d : Array Value} (h : VsR R c d) : SimS P Z VR R (Builtin.copy_ ts t c) (Builtin.copy_ ts t d) := by
  unfold Builtin.copy_
  cases e0 : c[0]? with
  | none => rw [h.none e0]; cases ts[0]? <;> exact sim_stuck
  | some dst =>
    obtain ⟨dst', e0', hd⟩ := h.at_ e0
    rw [e0']
    cases e1 : c[1]? with
    | none => rw [h.none e1]; cases ts[0]? <;> exact sim_stuck
    | some src =>
      obtain ⟨src', e1', hs⟩ := h.at_ e1
      rw [e1']
      cases ts[0]? with
      | none => exact sim_stuck
      | some dt =>
        refine sim_same (sim_underlying dt) fun R1 r1 d2 hd2 => ?_
        split
        · rename_i elem
          have hs := hs.mono r1
          cases hd with
          | slice0 l c =>
            refine sim_bind (sim_lenOf hs) fun R2 r2 a b e => ?_
            obtain ⟨rfl, _⟩ := e
            refine sim_same (sim_sizeOf elem) fun R3 r3 size _ => sim_bind (sim_firstCells _ _ ((hs.mono r2).mono r3)) fun R4 r4 cs ds hcd => ?_
            exact sim_pure fun _ _ => .int _ _
          | @slice a b l c hab =>
            refine sim_bind (sim_lenOf hs) fun R2 r2 x y e => ?_
            obtain ⟨rfl, _⟩ := e
            refine sim_same (sim_sizeOf elem) fun R3 r3 size _ => sim_bind (sim_firstCells _ _ ((hs.mono r2).mono r3)) fun R4 r4 cs ds hcd => ?_
            exact sim_bind (sim_storeCells 0 hcd.list ((((hab.mono r1).mono r2).mono r3).mono r4)) fun R5 r5 _ _ _ => sim_pure fun _ _ => .int _ _
          | _ => exact sim_stuck
        · exact sim_stuck
theorem sim_len (ts : Array TypeId) (t : TypeId) {c d : Array Value} (h : VsR R c d) : SimS P Z VR R (Builtin.len_ ts t c) (Builtin.len_ ts t d) := by
  unfold Builtin.len_
  cases e0 : c[0]? with
  | none => rw [h.none e0]; cases ts[0]? <;> exact sim_stuck
  | some x =>
    obtain ⟨x', e0', hx⟩ := h.at_ e0
    rw [e0']
    cases ts[0]? with
    | none => exact sim_stuck
    | some t0 =>
      refine sim_same (sim_underlying t0) fun R1 r1 d2 _ => ?_
      have hx := hx.mono r1
      cases d2 with
      | array n elem => exact sim_pure fun _ _ => .int _ _
      | pointer arr =>
        refine sim_same (sim_underlying arr) fun R2 r2 d3 _ => ?_
        split
        · exact sim_pure fun _ _ => .int _ _
        · exact sim_stuck
      | string =>
        cases hx with
        | string s => exact sim_pure fun _ _ => .int _ _
        | _ => exact sim_stuck
      | slice e =>
        cases hx with
        | slice0 l c => exact sim_pure fun _ _ => .int _ _
        | slice l c a => exact sim_pure fun _ _ => .int _ _
        | _ => exact sim_stuck
      | map k e =>
        cases hx with
        | map0 => exact sim_pure fun _ _ => .int _ _
        | map a =>
          refine sim_bind (sim_getObj a) fun R2 r2 o p hop => ?_
          cases hop with
          | cells => exact sim_stuck
          | number => exact sim_stuck
          | iter => exact sim_stuck
          | miter0 => exact sim_stuck
          | miter => exact sim_stuck
          | map k e v => dsimp only; rw [e]; exact sim_pure fun _ _ => .int _ _
        | _ => exact sim_stuck
      | chan k e =>
        cases hx with
        | chan0 => exact sim_pure fun _ _ => .int _ _
        | chan a =>
          refine sim_bind (sim_getObj a) fun R2 r2 o p hop => ?_
          cases hop with
          | cells => exact sim_stuck
          | number => exact sim_stuck
          | iter => exact sim_stuck
          | miter0 => exact sim_stuck
          | miter => exact sim_stuck
          | map k e v => exact sim_stuck
        | _ => exact sim_stuck
      | _ => exact sim_stuck
theorem sim_makeSlice {t : TypeId} (hz : ElemOk P t) {l l' c c' : Value} (hl : VR R l l') (hc : VR R c c') : SimS P Z VR R (Instr.makeSlice t l c) (Instr.makeSlice t l' c') := by
  unfold Instr.makeSlice
  refine sim_same (sim_underlying t) fun R1 r1 d hd => ?_
  split
  · rename_i elem
    refine sim_bind (sim_asInt (hl.mono r1)) fun R2 r2 a b e => ?_
    obtain ⟨rfl, _⟩ := e
    refine sim_bind (sim_asInt ((hc.mono r1).mono r2)) fun R3 r3 a2 b e => ?_
    obtain ⟨rfl, _⟩ := e
    refine sim_same (sim_typeInfo elem) fun R4 r4 inf _ => ?_
    dsimp only
    split
    · split
      · exact sim_bind (A := fun _ _ _ => False) (sim_runtimePanic (e := .error _) trivial) fun _ _ _ _ hf => hf.elim
      · split
        · exact sim_bind (A := fun _ _ _ => False) (sim_runtimePanic (e := .error _) trivial) fun _ _ _ _ hf => hf.elim
        · exact sim_same (sim_choose _) fun R5 r5 n _ => sim_bind (A := fun _ _ _ => False) (sim_runtimePanic (e := .error _) trivial) fun _ _ _ _ hf => hf.elim
    · refine sim_bind (sim_askRoom _) fun R5 r5 _ _ _ => sim_same (sim_sizeOf elem) fun R6 r6 n _ => ?_
      split
      · exact sim_bind (A := VsR) (sim_pure fun _ _ => VsR.empty) fun R7 r7 c d hcd => sim_bind (sim_newRow elem (hcd.range _)) fun R8 r8 a b hab => sim_pure fun R9 r9 => .slice _ _ (hab.mono r9)
      · exact sim_bind (sim_zeroValue (hz elem hd)) fun R6 r6 v u hv => sim_bind (A := VsR) (sim_pure fun _ r => (hv.mono r).cells) fun R7 r7 c d hcd => sim_bind (sim_newRow elem (hcd.range _)) fun R8 r8 a b hab => sim_pure fun R9 r9 => .slice _ _ (hab.mono r9)
  · exact sim_stuck
theorem SimS.fallen {s : Sem α} {s' : Sem β} (h : ∀ w es, ∃ h w1 es1, s.runT P w es = (.halt h w1, es1) ∧ Dull h) : SimS P Z A R s s' := by
  intro R0 h0 w w' es es' hw he
  refine ⟨?_, .dull fun τ d => h (w.re τ d) es⟩
  obtain ⟨hh, w1, es1, e, hd⟩ := h w es
  rw [e]
  exact Met.dead hd
def Looks (P : Program) {γ : Type} (s : Sem γ) : Prop := ∀ w es, ∃ g, s.runT P w es = (.ok g w, es)
theorem looks_pure {γ : Type} (g : γ) : Looks P (pure g : Sem γ) := fun w es => ⟨g, rfl⟩
theorem looks_bind {γ δ : Type} {s : Sem γ} {k : γ → Sem δ} (h : Looks P s) (hk : ∀ g, Looks P (k g)) : Looks P (s >>= k) := fun w es => by
  obtain ⟨g, e⟩ := h w es
  obtain ⟨d, e2⟩ := hk g w es
  exact ⟨d, by show (s.bind k).runT P w es = _; rw [Sem.runT_bind', e]; exact e2⟩
theorem looks_shape (r : Nat) : Looks P (Go.shape r) := fun w es => ⟨_, rfl⟩
theorem looks_frozen (a : Addr) : Looks P (Go.frozen a) := fun w es => ⟨_, rfl⟩
theorem looks_holds (a : Addr) (n : Nat) : Looks P (Builtin.holdsCells a n) := by
  unfold Builtin.holdsCells
  refine looks_bind (looks_shape _) fun g => ?_
  split <;> exact looks_pure _
theorem looks_mayShare (size sLen n : Nat) (base : Option Addr) (x : Value) : Looks P (Builtin.mayShare size sLen n base x) := by
  unfold Builtin.mayShare
  have fin : ∀ there : Bool, Looks P (if (!there) = true then (pure true : Sem Bool) else
      match x with
      | .slice (some b) _ _ => do pure (!(← Builtin.holdsCells b (n * size)) || base.any (·.block == b.block))
      | _ => pure false) := by
    intro there
    split
    · exact looks_pure _
    · split
      · exact looks_bind (looks_holds _ _) fun g => looks_pure _
      · exact looks_pure _
  cases base with
  | none => exact fin true
  | some a => exact looks_bind (looks_holds _ _) fun g => looks_bind (looks_frozen _) fun g2 => fin _
theorem mayShare_falls (size sLen n : Nat) (base : Option Addr) (x : Value) (k : Unit → Sem Value) (w : World) (es : Array Event) : ∃ h w1 es1, Sem.runT P ((do
      let g ← Builtin.mayShare size sLen n base x
      if (!g) = true then do
        let _ ← mark .noRoom
        unsupported (.resourceLimit "append: a slice or a string whose bytes no memory bears")
      else unsupported (.resourceLimit "append: a slice or a string whose bytes no memory bears") : Sem Unit) >>= k) w es = (.halt h w1, es1) ∧ Dull h := by
  obtain ⟨g, e⟩ := looks_mayShare (P := P) size sLen n base x w es
  refine ⟨.unsupported (.resourceLimit "append: a slice or a string whose bytes no memory bears"), w, if (!g) = true then es.push ⟨.mark .noRoom, false, true⟩ else es, ?_, trivial⟩
  show (Sem.bind (Sem.bind (Builtin.mayShare size sLen n base x) _) k).runT P w es = _
  rw [Sem.runT_bind', Sem.runT_bind', e]
  cases g <;> rfl
theorem sim_append (ts : Array TypeId) (hz : ∀ x, ts[0]? = some x → ElemOk P x) (t : TypeId) (hts : ∀ x, ts[1]? = some x → ∀ k, P.underlying x ≠ some (.int k)) {c d : Array Value} (h : VsR R c d) : SimS P Z VR R (Builtin.append_ ts t c) (Builtin.append_ ts t d) := by
  unfold Builtin.append_
  cases e0 : c[0]? with
  | none => rw [h.none e0]; cases ts[0]? <;> exact sim_stuck
  | some s =>
    obtain ⟨s', e0', hs⟩ := h.at_ e0
    rw [e0']
    cases e1 : c[1]? with
    | none => rw [h.none e1]; cases ts[0]? <;> exact sim_stuck
    | some x =>
      obtain ⟨x', e1', hx⟩ := h.at_ e1
      rw [e1']
      cases hts0 : ts[0]? with
      | none => exact sim_stuck
      | some sT =>
        refine sim_same (sim_underlying sT) fun R1 r1 d2 hd2 => ?_
        split
        · rename_i elem
          have hs := hs.mono r1
          have hx := hx.mono r1
          clear e0 e1 e0' e1' h r1
          rcases (show (∃ base base' l cp, s = .slice base l cp ∧ s' = .slice base' l cp ∧ ((base = none ∧ base' = none) ∨ ∃ a b, base = some a ∧ base' = some b ∧ AR R1 a b)) ∨ (∀ base l cp, s ≠ .slice base l cp) by
            cases hs with
            | slice0 l c => exact .inl ⟨none, none, l, c, rfl, rfl, .inl ⟨rfl, rfl⟩⟩
            | @slice a b l c hab => exact .inl ⟨some a, some b, l, c, rfl, rfl, .inr ⟨a, b, rfl, rfl, hab⟩⟩
            | _ => exact .inr fun _ _ _ e => by cases e) with ⟨base, base', sLen, sCap, rfl, rfl, hb⟩ | hno
          · refine sim_same (sim_sizeOf elem) fun R2 r2 size _ => ?_
            dsimp only
            have hs := hs.mono r2
            have hx := hx.mono r2
            have hb : (base = none ∧ base' = none) ∨ ∃ a b, base = some a ∧ base' = some b ∧ AR R2 a b := hb.imp id fun ⟨a, b, e1, e2, h⟩ => ⟨a, b, e1, e2, h.mono r2⟩
            have pre : ∀ {R3 : Rel} {J J' : Bool → Sem Value}, R2.Le R3 → SimS P Z VR R3 (J false) (J' false) → SimS P Z VR R3 (pure false >>= J) (pure false >>= J') := fun _ h => h
            have go : ∀ {J J' : Bool → Sem Value}, (∀ R3, R2.Le R3 → SimS P Z VR R3 (J false) (J' false)) → SimS P Z VR R2
                (match ts[1]? with
                  | some xType => do
                    let d ← underlying xType
                    let z ← pure (match d with | .int k => true | x => false)
                    J z
                  | none => do
                    let z ← pure false
                    J z)
                (match ts[1]? with
                  | some xType => do
                    let d ← underlying xType
                    let z ← pure (match d with | .int k => true | x => false)
                    J' z
                  | none => do
                    let z ← pure false
                    J' z) := by
              intro J J' hJ
              cases ht : ts[1]? with
              | none => exact hJ R2 (.refl _)
              | some xT =>
                refine sim_same (sim_underlying xT) fun R3 r3 d3 hd3 => ?_
                cases d3 with
                | int k => exact absurd hd3 (hts xT ht k)
                | _ => exact hJ R3 r3
            refine go fun R3 r3 => ?_
            simp only [Bool.not_false, if_true, Bool.false_eq_true, if_false, false_or]
            refine sim_bind (sim_lenOf (hx.mono r3)) fun R4 r4 n n' e => ?_
            obtain ⟨rfl, _⟩ := e
            have rr := r3.trans r4
            split
            · refine sim_bind (sim_firstCells size n (hx.mono rr)) fun R5 r5 cs ds hcd => ?_
              rcases hb with ⟨rfl, rfl⟩ | ⟨a, b, rfl, rfl, hab⟩
              · exact sim_pure fun R4 r4 => .slice0 _ _
              · exact sim_bind (sim_storeCells 0 hcd.list (((hab.mono rr).mono r5).add _)) fun R6 r6 _ _ _ => sim_pure fun R7 r7 => .slice _ _ ((((hab.mono rr).mono r5).mono r6).mono r7)
            · refine sim_same (sim_typeInfo elem) fun R5 r5 i1 _ => ?_
              have rr := rr.trans r5
              have last : ∀ {R4 : Rel}, R5.Le R4 → SimS P Z VR R4 (do
                      let newCap ← choose (.appendCap (sLen + n) sCap elem)
                      let i3 ← typeInfo elem
                      askRoom (newCap * i3.bytes)
                      let old ← Builtin.firstCells size sLen (.slice base sLen sCap)
                      let new ← Builtin.firstCells size n x
                      let z ← zeroValue elem
                      let r ← newRow elem (old ++ new ++ Builtin.zeroCells z.cells (newCap - (sLen + n)))
                      pure (.slice (some r) (sLen + n) newCap)) (do
                      let newCap ← choose (.appendCap (sLen + n) sCap elem)
                      let i3 ← typeInfo elem
                      askRoom (newCap * i3.bytes)
                      let old ← Builtin.firstCells size sLen (.slice base' sLen sCap)
                      let new ← Builtin.firstCells size n x'
                      let z ← zeroValue elem
                      let r ← newRow elem (old ++ new ++ Builtin.zeroCells z.cells (newCap - (sLen + n)))
                      pure (.slice (some r) (sLen + n) newCap)) := by
                intro R4 r4
                refine sim_same (sim_choose _) fun R5 r5 cap _ => sim_same (sim_typeInfo elem) fun R6 r6 i3 _ => sim_bind (sim_askRoom _) fun R7 r7 _ _ _ => ?_
                have rr := (((rr.trans r4).trans r5).trans r6).trans r7
                refine sim_bind (sim_firstCells size sLen (hs.mono rr)) fun R8 r8 c1 d1 h1 => sim_bind (sim_firstCells size n (hx.mono (rr.trans r8))) fun R9 r9 c2 d2 h2 => ?_
                refine sim_bind (sim_zeroValue (hz sT hts0 elem hd2)) fun R10 r10 v u hv => ?_
                exact sim_bind (sim_newRow elem ((((h1.mono r9).mono r10).append (h2.mono r10)).append (hv.cells.zeroCells _))) fun R11 r11 a b hab => sim_pure fun R12 r12 => .slice _ _ (hab.mono r12)
              have mid : ∀ {R4 : Rel}, R5.Le R4 → SimS P Z VR R4 (do
                      let i2 ← typeInfo elem
                      if Builtin.nextslicecap (sLen + n) sCap * i2.bytes > 2 ^ 48 then do
                        let u ← (do
                          let g ← Builtin.mayShare size sLen n base x
                          if (!g) = true then do
                            let _ ← mark .noRoom
                            unsupported (.resourceLimit "append: a slice or a string whose bytes no memory bears")
                          else unsupported (.resourceLimit "append: a slice or a string whose bytes no memory bears") : Sem Unit)
                        (fun (_ : Unit) => (do
                          let newCap ← choose (.appendCap (sLen + n) sCap elem)
                          let i3 ← typeInfo elem
                          askRoom (newCap * i3.bytes)
                          let old ← Builtin.firstCells size sLen (.slice base sLen sCap)
                          let new ← Builtin.firstCells size n x
                          let z ← zeroValue elem
                          let r ← newRow elem (old ++ new ++ Builtin.zeroCells z.cells (newCap - (sLen + n)))
                          pure (.slice (some r) (sLen + n) newCap) : Sem Value)) u
                      else (do
                          let newCap ← choose (.appendCap (sLen + n) sCap elem)
                          let i3 ← typeInfo elem
                          askRoom (newCap * i3.bytes)
                          let old ← Builtin.firstCells size sLen (.slice base sLen sCap)
                          let new ← Builtin.firstCells size n x
                          let z ← zeroValue elem
                          let r ← newRow elem (old ++ new ++ Builtin.zeroCells z.cells (newCap - (sLen + n)))
                          pure (.slice (some r) (sLen + n) newCap))) (do
                      let i2 ← typeInfo elem
                      if Builtin.nextslicecap (sLen + n) sCap * i2.bytes > 2 ^ 48 then do
                        let u ← (do
                          let g ← Builtin.mayShare size sLen n base' x'
                          if (!g) = true then do
                            let _ ← mark .noRoom
                            unsupported (.resourceLimit "append: a slice or a string whose bytes no memory bears")
                          else unsupported (.resourceLimit "append: a slice or a string whose bytes no memory bears") : Sem Unit)
                        (fun (_ : Unit) => (do
                          let newCap ← choose (.appendCap (sLen + n) sCap elem)
                          let i3 ← typeInfo elem
                          askRoom (newCap * i3.bytes)
                          let old ← Builtin.firstCells size sLen (.slice base' sLen sCap)
                          let new ← Builtin.firstCells size n x'
                          let z ← zeroValue elem
                          let r ← newRow elem (old ++ new ++ Builtin.zeroCells z.cells (newCap - (sLen + n)))
                          pure (.slice (some r) (sLen + n) newCap) : Sem Value)) u
                      else (do
                          let newCap ← choose (.appendCap (sLen + n) sCap elem)
                          let i3 ← typeInfo elem
                          askRoom (newCap * i3.bytes)
                          let old ← Builtin.firstCells size sLen (.slice base' sLen sCap)
                          let new ← Builtin.firstCells size n x'
                          let z ← zeroValue elem
                          let r ← newRow elem (old ++ new ++ Builtin.zeroCells z.cells (newCap - (sLen + n)))
                          pure (.slice (some r) (sLen + n) newCap))) := by
                intro R4 r4
                refine sim_same (sim_typeInfo elem) fun R6 r6 i2 _ => ?_
                split
                · exact SimS.fallen fun w es => mayShare_falls size sLen n base x _ w es
                · exact last (r4.trans r6)
              split
              · exact sim_bind (A := fun _ _ _ => False) (sim_runtimePanic (e := .error _) trivial) fun _ _ _ _ hf => hf.elim
              · exact mid (.refl _)
          · cases s <;> first | exact sim_stuck | exact absurd rfl (hno _ _ _)
        · exact sim_stuck
end
end Ren
end Go.Proofs.YtdkpbobglogmoaaGreat
