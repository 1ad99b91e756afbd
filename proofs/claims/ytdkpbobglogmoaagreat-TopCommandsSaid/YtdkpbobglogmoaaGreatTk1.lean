/- Parts of the proof of TopCommandsProof: Ren. -/
import Derived.Conc.Events
set_option linter.unusedVariables false
set_option linter.unusedSimpArgs false
set_option maxRecDepth 100000
set_option maxHeartbeats 32000000
namespace Go.Proofs.YtdkpbobglogmoaaGreat
open Go
namespace Ren
abbrev Rel := Nat → Nat → Prop
def Rel.Le (R S : Rel) : Prop := ∀ a b, R a b → S a b
theorem Rel.Le.refl (R : Rel) : R.Le R := fun _ _ h => h
theorem Rel.Le.trans {R S T : Rel} (h : R.Le S) (k : S.Le T) : R.Le T := fun a b x => k a b (h a b x)
def AR (R : Rel) (a b : Addr) : Prop := R a.block b.block ∧ a.off = b.off ∧ a.spot = b.spot
theorem AR.mono {R S : Rel} (h : R.Le S) {a b : Addr} (x : AR R a b) : AR S a b := ⟨h _ _ x.1, x.2⟩
theorem AR.add {R : Rel} {a b : Addr} (x : AR R a b) (n : Nat) : AR R (a.add n) (b.add n) := by
  obtain ⟨h1, h2, h3⟩ := x
  unfold Addr.add
  split
  · exact ⟨h1, h2, h3⟩
  · exact ⟨h1, by simp [h2], rfl⟩
def Still : Fn → Prop
  | .func _ => True
  | _ => False
def Odd : Value → Prop
  | .pointer (some _) | .slice (some _) _ _ | .map (some _) | .chan (some _) | .complex .. | .func (.func _) .. | .func (.methodOf ..) .. | .func (.via ..) .. | .func (.yield _) .. => True
  | _ => False
inductive VR (R : Rel) : Value → Value → Prop
  | junk {v : Value} : Odd v → VR R (.tuple #[]) v
  | bool (b : Bool) : VR R (.bool b) (.bool b)
  | int (k : IntKind) (n : Int) : VR R (.int k n) (.int k n)
  | float (k : FloatKind) (n : Nat) : VR R (.float k n) (.float k n)
  | string (s : ByteArray) : VR R (.string s) (.string s)
  | ptr0 : VR R (.pointer none) (.pointer none)
  | ptr {a b : Addr} : AR R a b → VR R (.pointer (some a)) (.pointer (some b))
  | slice0 (l c : Nat) : VR R (.slice none l c) (.slice none l c)
  | slice {a b : Addr} (l c : Nat) : AR R a b → VR R (.slice (some a) l c) (.slice (some b) l c)
  | map0 : VR R (.map none) (.map none)
  | map {a b : Nat} : R a b → VR R (.map (some a)) (.map (some b))
  | chan0 : VR R (.chan none) (.chan none)
  | chan {a b : Nat} : R a b → VR R (.chan (some a)) (.chan (some b))
  | func (fn : Fn) {f g c d : Array Value} : Still fn → f.size = g.size → (∀ (i : Nat) v w, f[i]? = some v → g[i]? = some w → VR R v w) →
      c.size = d.size → (∀ (i : Nat) v w, c[i]? = some v → d[i]? = some w → VR R v w) → VR R (.func fn f c) (.func fn g d)
  | nilFunc : VR R .nilFunc .nilFunc
  | meth (n : String) (g d : Array Value) : VR R (.func (.method n) #[.iface 1000000 (.tuple #[])] #[]) (.func (.method n) g d)
  | iface (t : TypeId) {v w : Value} : VR R v w → VR R (.iface t v) (.iface t w)
  | nilIface : VR R .nilIface .nilIface
  | agg {c d : Array Value} : c.size = d.size → (∀ (i : Nat) v w, c[i]? = some v → d[i]? = some w → VR R v w) → VR R (.agg c) (.agg d)
  | tuple {c d : Array Value} : c.size = d.size → (∀ (i : Nat) v w, c[i]? = some v → d[i]? = some w → VR R v w) → VR R (.tuple c) (.tuple d)
def VsR (R : Rel) (c d : Array Value) : Prop := c.size = d.size ∧ ∀ (i : Nat) v w, c[i]? = some v → d[i]? = some w → VR R v w
theorem VR.mono {R S : Rel} (h : R.Le S) {v w : Value} (x : VR R v w) : VR S v w := by
  induction x with
  | junk h => exact .junk h
  | bool b => exact .bool b
  | int k n => exact .int k n
  | float k n => exact .float k n
  | string s => exact .string s
  | ptr0 => exact .ptr0
  | ptr a => exact .ptr (a.mono h)
  | slice0 l c => exact .slice0 l c
  | slice l c a => exact .slice l c (a.mono h)
  | map0 => exact .map0
  | map a => exact .map (h _ _ a)
  | chan0 => exact .chan0
  | chan a => exact .chan (h _ _ a)
  | func fn s e1 _ e2 _ ih1 ih2 => exact .func fn s e1 ih1 e2 ih2
  | nilFunc => exact .nilFunc
  | meth n g d => exact .meth n g d
  | iface t _ ih => exact .iface t ih
  | nilIface => exact .nilIface
  | agg e _ ih => exact .agg e ih
  | tuple e _ ih => exact .tuple e ih
theorem VsR.mono {R S : Rel} (h : R.Le S) {c d : Array Value} (x : VsR R c d) : VsR S c d := ⟨x.1, fun i v w e f => (x.2 i v w e f).mono h⟩
namespace VsR
variable {R : Rel} {c d : Array Value}
theorem at_ (h : VsR R c d) {i : Nat} {v : Value} (e : c[i]? = some v) : ∃ w, d[i]? = some w ∧ VR R v w := by
  have hi : i < d.size := h.1 ▸ (Array.getElem?_eq_some_iff.1 e).1
  exact ⟨d[i], Array.getElem?_eq_getElem hi, h.2 i v _ e (Array.getElem?_eq_getElem hi)⟩
theorem none (h : VsR R c d) {i : Nat} (e : c[i]? = none) : d[i]? = none := by
  rw [Array.getElem?_eq_none_iff] at e ⊢
  have := h.1
  omega
theorem empty : VsR R #[] #[] := ⟨rfl, fun i v w e => by simp at e⟩
theorem push (h : VsR R c d) {v w : Value} (x : VR R v w) : VsR R (c.push v) (d.push w) := by
  refine ⟨by simp [h.1], fun i a b ea eb => ?_⟩
  rw [Array.getElem?_push] at ea eb
  rw [h.1] at ea
  split at ea
  · rename_i hi
    rw [if_pos hi] at eb
    cases ea; cases eb
    exact x
  · rename_i hi
    rw [if_neg hi] at eb
    exact h.2 i a b ea eb
theorem set (h : VsR R c d) (i : Nat) {v w : Value} (x : VR R v w) : VsR R (c.setIfInBounds i v) (d.setIfInBounds i w) := by
  refine ⟨by simp [h.1], fun j a b ea eb => ?_⟩
  rw [Array.getElem?_setIfInBounds] at ea eb
  split at ea
  · rename_i hij
    subst hij
    rw [if_pos rfl] at eb
    split at ea
    · rename_i hlt
      rw [if_pos (by rw [← h.1]; exact hlt)] at eb
      cases ea; cases eb
      exact x
    · cases ea
  · rename_i hij
    rw [if_neg hij] at eb
    exact h.2 j a b ea eb
theorem append {c' d' : Array Value} (h : VsR R c d) (h' : VsR R c' d') : VsR R (c ++ c') (d ++ d') := by
  refine ⟨by simp [h.1, h'.1], fun i a b ea eb => ?_⟩
  rw [Array.getElem?_append] at ea eb
  rw [h.1] at ea
  split at ea
  · rename_i hi
    rw [if_pos hi] at eb
    exact h.2 i a b ea eb
  · rename_i hi
    rw [if_neg hi] at eb
    exact h'.2 _ a b ea eb
theorem extract (h : VsR R c d) (i j : Nat) : VsR R (c.extract i j) (d.extract i j) := by
  refine ⟨by simp [h.1], fun k a b ea eb => ?_⟩
  rw [Array.getElem?_extract] at ea eb
  rw [h.1] at ea
  split at ea
  · rename_i hi
    rw [if_pos hi] at eb
    exact h.2 _ a b ea eb
  · cases ea
theorem one {v w : Value} (x : VR R v w) : VsR R #[v] #[w] := (empty (R := R)).push x
end VsR
theorem VR.cells {R : Rel} {v w : Value} (x : VR R v w) : VsR R v.cells w.cells := by
  cases x with
  | junk h =>
    have e : w.cells = #[w] := by cases w <;> first | rfl | cases h
    rw [e]
    exact VsR.one (.junk h)
  | agg e h => exact ⟨e, h⟩
  | bool b => exact VsR.one (.bool b)
  | int k n => exact VsR.one (.int k n)
  | float k n => exact VsR.one (.float k n)
  | string s => exact VsR.one (.string s)
  | ptr0 => exact VsR.one .ptr0
  | ptr a => exact VsR.one (.ptr a)
  | slice0 l c => exact VsR.one (.slice0 l c)
  | slice l c a => exact VsR.one (.slice l c a)
  | map0 => exact VsR.one .map0
  | map a => exact VsR.one (.map a)
  | chan0 => exact VsR.one .chan0
  | chan a => exact VsR.one (.chan a)
  | func fn s e1 h1 e2 h2 => exact VsR.one (.func fn s e1 h1 e2 h2)
  | nilFunc => exact VsR.one .nilFunc
  | meth n g d => exact VsR.one (.meth n g d)
  | iface t h => exact VsR.one (.iface t h)
  | nilIface => exact VsR.one .nilIface
  | tuple e h => exact VsR.one (.tuple e h)
def Plain : Value → Prop
  | .bool _ | .int .. | .float .. | .string _ | .pointer none | .slice none .. | .map none | .chan none | .nilFunc | .nilIface => True
  | _ => False
inductive OR (R : Rel) : Obj → Obj → Prop
  | cells {c d : Array Value} (e : TypeId) {f g : Nat × Nat} : VsR R c d → (∀ o : Nat, g.1 ≤ o ∧ o < g.2 → f.1 ≤ o ∧ o < f.2) → OR R (.cells c e f) (.cells d e g)
  | number {a b : Addr} (l : Bool) : AR R a b → OR R (.number a l) (.number b l)
  | iter (s : ByteArray) (n : Nat) : OR R (.stringIter s n) (.stringIter s n)
  | miter0 (s : Nat) (q : Array Nat) (l : Nat) : OR R (.mapIter none s q l) (.mapIter none s q l)
  | miter {a b : Nat} (s : Nat) (q : Array Nat) (l : Nat) : R a b → OR R (.mapIter (some a) s q l) (.mapIter (some b) s q l)
  | map {c d : Array MapEntry} (k : Nat) : c.size = d.size → (∀ (i : Nat) x y, c[i]? = some x → d[i]? = some y → VR R x.key y.key ∧ VR R x.val y.val ∧ x.born = y.born) → OR R (.map c k) (.map d k)
theorem OR.mono {R S : Rel} (h : R.Le S) {o p : Obj} (x : OR R o p) : OR S o p := by
  cases x with
  | cells e v f => exact .cells e (v.mono h) f
  | number l a => exact .number l (a.mono h)
  | iter s n => exact .iter s n
  | miter0 s q l => exact .miter0 s q l
  | miter s q l a => exact .miter s q l (h _ _ a)
  | map k e v => exact .map k e fun i x y a b => ⟨(v i x y a b).1.mono h, (v i x y a b).2.1.mono h, (v i x y a b).2.2⟩
structure Env where
  ice : Nat → Prop
  glob : Nat
instance : CoeFun Env (fun _ => Nat → Prop) := ⟨Env.ice⟩
def Ice (w : World) (a : Nat) : Prop := ∃ c e n, w.heap[a]? = some (.cells c e (0, n)) ∧ c.size ≤ n
structure WR (Z : Env) (R : Rel) (w w' : World) : Prop where
  fn : ∀ a b c, R a b → R a c → b = c
  inj : ∀ a b c, R a c → R b c → a = b
  obj : ∀ a b, R a b → ∃ o p, w.heap[a]? = some o ∧ w'.heap[b]? = some p ∧ OR R o p
  ice : ∀ a, Z a → Ice w a
  tape : w.tape = w'.tape
  drawn : w.drawn = w'.drawn
  glob : ∀ a b, R a b → a < Z.glob ∨ b < Z.glob → a = b
  big : Z.glob ≤ w.heap.size
  big' : Z.glob ≤ w'.heap.size
theorem WR.lt {Z : Env} {R : Rel} {w w' : World} (h : WR Z R w w') {a b : Nat} (x : R a b) : a < w.heap.size ∧ b < w'.heap.size := by
  obtain ⟨o, p, h1, h2, _⟩ := h.obj a b x
  exact ⟨(Array.getElem?_eq_some_iff.1 h1).1, (Array.getElem?_eq_some_iff.1 h2).1⟩
inductive LR (R : Rel) : Loc → Loc → Prop
  | cell {a b : Addr} : AR R a b → LR R (.cell a) (.cell b)
  | obj {a b : Nat} : R a b → LR R (.obj a) (.obj b)
  | ext (f : FuncId) : LR R (.mark (.extern f)) (.mark (.extern f))
  | noRoom : LR R (.mark .noRoom) (.mark .noRoom)
theorem LR.mono {R S : Rel} (h : R.Le S) {a b : Loc} (x : LR R a b) : LR S a b := by
  cases x with
  | cell a => exact .cell (a.mono h)
  | obj a => exact .obj (h _ _ a)
  | ext f => exact .ext f
  | noRoom => exact .noRoom
def Loc.blk : Loc → Option Nat
  | .cell a => some a.block
  | .obj r => some r
  | _ => none
structure EvR (Z : Env) (R : Rel) (e e' : Event) : Prop where
  loc : LR R e.loc e'.loc
  write : e.write = e'.write
  sync : e.sync = e'.sync
  thaw : e.write = true → ∀ b, Loc.blk e.loc = some b → ¬ Z b
theorem EvR.mono {Z : Env} {R S : Rel} (h : R.Le S) {a b : Event} (x : EvR Z R a b) : EvR Z S a b := ⟨x.loc.mono h, x.write, x.sync, x.thaw⟩
def EsR (Z : Env) (R : Rel) (c d : Array Event) : Prop := c.size = d.size ∧ ∀ (i : Nat) x y, c[i]? = some x → d[i]? = some y → EvR Z R x y
theorem EsR.mono {Z : Env} {R S : Rel} (h : R.Le S) {c d : Array Event} (x : EsR Z R c d) : EsR Z S c d := ⟨x.1, fun i v w e f => (x.2 i v w e f).mono h⟩
theorem EsR.empty {Z : Env} {R : Rel} : EsR Z R #[] #[] := ⟨rfl, fun i v w e => by simp at e⟩
theorem EsR.push {Z : Env} {R : Rel} {c d : Array Event} (h : EsR Z R c d) {v w : Event} (x : EvR Z R v w) : EsR Z R (c.push v) (d.push w) := by
  refine ⟨by simp [h.1], fun i a b ea eb => ?_⟩
  rw [Array.getElem?_push] at ea eb
  rw [h.1] at ea
  split at ea
  · rename_i hi
    rw [if_pos hi] at eb
    cases ea; cases eb
    exact x
  · rename_i hi
    rw [if_neg hi] at eb
    exact h.2 i a b ea eb
structure Turn (Z : Env) (R R1 : Rel) (w w' w1 w1' : World) : Prop where
  le : R.Le R1
  new : ∀ a b, R1 a b → R a b ∨ (w.heap.size ≤ a ∧ w'.heap.size ≤ b)
  wr : WR Z R1 w1 w1'
  size : w.heap.size ≤ w1.heap.size
  size' : w'.heap.size ≤ w1'.heap.size
  aside : ∀ b, b < w'.heap.size → (∀ a, ¬ R a b) → w1'.heap[b]? = w'.heap[b]?
  still : ∀ a b, R a b → Z a → w1'.heap[b]? = w'.heap[b]?
  mine : ∀ b, w'.heap.size ≤ b → b < w1'.heap.size → ∃ a, R1 a b
  rest : w1'.tape = w'.tape ∧ w1'.os = w'.os ∧ w1'.output = w'.output
theorem Turn.refl {Z : Env} {R : Rel} {w w' : World} (h : WR Z R w w') : Turn Z R R w w' w w' :=
  ⟨.refl _, fun _ _ x => .inl x, h, Nat.le_refl _, Nat.le_refl _, fun _ _ _ => rfl, fun _ _ _ _ => rfl, fun _ h1 h2 => absurd h2 (by omega), rfl, rfl, rfl⟩
theorem Turn.trans {Z : Env} {R S T : Rel} {w w' w1 w1' w2 w2' : World} (h : Turn Z R S w w' w1 w1') (k : Turn Z S T w1 w1' w2 w2') : Turn Z R T w w' w2 w2' := by
  refine ⟨h.le.trans k.le, fun a b x => ?_, k.wr, Nat.le_trans h.size k.size, Nat.le_trans h.size' k.size', fun b hb hn => ?_, fun a b x z => ?_, fun b h1 h2 => ?_, k.rest.1.trans h.rest.1, k.rest.2.1.trans h.rest.2.1, k.rest.2.2.trans h.rest.2.2⟩
  · rcases k.new a b x with y | ⟨y1, y2⟩
    · exact h.new a b y
    · exact .inr ⟨Nat.le_trans h.size y1, Nat.le_trans h.size' y2⟩
  · refine (k.aside b (Nat.lt_of_lt_of_le hb h.size') fun a x => ?_).trans (h.aside b hb hn)
    rcases h.new a b x with y | ⟨_, y⟩
    · exact hn a y
    · omega
  · exact (k.still a b (h.le _ _ x) z).trans (h.still a b x z)
  · by_cases hb : b < w1'.heap.size
    · obtain ⟨a, x⟩ := h.mine b h1 hb
      exact ⟨a, k.le _ _ x⟩
    · exact k.mine b (by omega) h2
def Dull : Halt → Prop
  | .stuck _ => True
  | .unsupported (.initOrder _) => False
  | .unsupported _ => True
  | _ => False
def Met {α β : Type} (Z : Env) (A : Rel → α → β → Prop) (R : Rel) (w w' : World) (r : Result α × Array Event) (r' : Result β × Array Event) : Prop :=
  match r with
  | (.ok a w1, es1) => ∃ R1 b w1' es1', r' = (.ok b w1', es1') ∧ Turn Z R R1 w w' w1 w1' ∧ A R1 a b ∧ EsR Z R1 es1 es1'
  | (.halt (.panic v) w1, es1) => ∃ R1 v' w1' es1', r' = (.halt (.panic v') w1', es1') ∧ Turn Z R R1 w w' w1 w1' ∧ VR R1 v v' ∧ EsR Z R1 es1 es1'
  | (.halt h _, _) => Dull h
def _root_.Go.World.re (w : World) (τ : Nat → Question → Nat) (d : Nat) : World := { w with tape := τ, drawn := d }
def Agree (w : World) (c : Nat) (τ : Nat → Question → Nat) (d : Nat) : Prop := ∀ i, i < c → ∀ q, τ (d + i) q = w.tape (w.drawn + i) q
def Lcl {α : Type} (P : Program) (s : Sem α) (w : World) (es : Array Event) : Prop :=
  match s.runT P w es with
  | (.ok a w1, es1) => ∃ c, w1.tape = w.tape ∧ w1.drawn = w.drawn + c ∧ ∀ τ d, Agree w c τ d → s.runT P (w.re τ d) es = (.ok a (w1.re τ (d + c)), es1)
  | (.halt (.panic v) w1, es1) => ∃ c, w1.tape = w.tape ∧ w1.drawn = w.drawn + c ∧ ∀ τ d, Agree w c τ d → s.runT P (w.re τ d) es = (.halt (.panic v) (w1.re τ (d + c)), es1)
  | (.halt _ _, _) => ∃ c, ∀ τ d, Agree w c τ d → ∃ h w2 es2, s.runT P (w.re τ d) es = (.halt h w2, es2) ∧ Dull h
theorem Lcl.step {α : Type} {P : Program} {s s2 : Sem α} {w w2 : World} {es es2 : Array Event} (h : ∀ τ d, s.runT P (w.re τ d) es = s2.runT P (w2.re τ d) es2) (ht : w2.tape = w.tape) (hd : w2.drawn = w.drawn) (k : Lcl P s2 w2 es2) : Lcl P s w es := by
  have h0 : s.runT P w es = s2.runT P w2 es2 := by
    have := h w.tape w.drawn
    rw [show w.re w.tape w.drawn = w from rfl, show w2.re w.tape w.drawn = w2 by rw [← ht, ← hd]; rfl] at this
    exact this
  unfold Lcl at *
  rw [h0]
  have ag : ∀ c τ d, Agree w c τ d → Agree w2 c τ d := fun c τ d g i hi q => by rw [ht, hd]; exact g i hi q
  revert k
  rcases s2.runT P w2 es2 with ⟨r, es1⟩
  cases r with
  | ok a w1 =>
    rintro ⟨c, k1, k2, k3⟩
    exact ⟨c, k1.trans ht, by rw [k2, hd], fun τ d g => (h τ d).trans (k3 τ d (ag c τ d g))⟩
  | halt hh w1 =>
    cases hh with
    | panic v =>
      rintro ⟨c, k1, k2, k3⟩
      exact ⟨c, k1.trans ht, by rw [k2, hd], fun τ d g => (h τ d).trans (k3 τ d (ag c τ d g))⟩
    | _ =>
      rintro ⟨c, k3⟩
      exact ⟨c, fun τ d g => let ⟨h2, w3, es3, e, hd⟩ := k3 τ d (ag c τ d g); ⟨h2, w3, es3, (h τ d).trans e, hd⟩⟩
theorem Lcl.pure {α : Type} {P : Program} (a : α) (w : World) (es : Array Event) : Lcl P (Sem.pure a) w es := ⟨0, rfl, rfl, fun _ _ _ => rfl⟩
theorem Lcl.dull {α : Type} {P : Program} {s : Sem α} {w : World} {es : Array Event} (h : ∀ τ d, ∃ h w2 es2, s.runT P (w.re τ d) es = (.halt h w2, es2) ∧ Dull h) : Lcl P s w es := by
  obtain ⟨h0, w0, es0, e, hd⟩ := h w.tape w.drawn
  rw [show w.re w.tape w.drawn = w from rfl] at e
  unfold Lcl
  rw [e]
  cases h0 with
  | panic v => exact hd.elim
  | _ => exact ⟨0, fun τ d _ => h τ d⟩
theorem Lcl.bind {α β : Type} {P : Program} {s : Sem α} {k : α → Sem β} {w : World} {es : Array Event} (h : Lcl P s w es) (hk : ∀ a w1 es1, s.runT P w es = (.ok a w1, es1) → Lcl P (k a) w1 es1) : Lcl P (s.bind k) w es := by
  unfold Lcl at h
  revert h
  cases hr : s.runT P w es with
  | mk r es1 =>
    cases r with
    | ok a w1 =>
      rintro ⟨c, h1, h2, h3⟩
      have h4 := hk a w1 es1 hr
      unfold Lcl at h4 ⊢
      rw [Sem.runT_bind', hr]
      simp only
      have ag : ∀ c2 τ d, Agree w (c + c2) τ d → Agree w1 c2 τ (d + c) := fun c2 τ d g i hi q => by
        rw [h1, h2, show d + c + i = d + (c + i) by omega, show w.drawn + c + i = w.drawn + (c + i) by omega]
        exact g (c + i) (by omega) q
      revert h4
      rcases (k a).runT P w1 es1 with ⟨r2, es2⟩
      cases r2 with
      | ok b w2 =>
        rintro ⟨c2, k1, k2, k3⟩
        refine ⟨c + c2, k1.trans h1, by rw [k2, h2]; omega, fun τ d g => ?_⟩
        rw [Sem.runT_bind', h3 τ d (fun i hi q => g i (by omega) q)]
        simp only
        rw [k3 τ (d + c) (ag c2 τ d g), show d + c + c2 = d + (c + c2) by omega]
      | halt hh w2 =>
        cases hh with
        | panic v =>
          rintro ⟨c2, k1, k2, k3⟩
          refine ⟨c + c2, k1.trans h1, by rw [k2, h2]; omega, fun τ d g => ?_⟩
          rw [Sem.runT_bind', h3 τ d (fun i hi q => g i (by omega) q)]
          simp only
          rw [k3 τ (d + c) (ag c2 τ d g), show d + c + c2 = d + (c + c2) by omega]
        | _ =>
          rintro ⟨c2, k3⟩
          refine ⟨c + c2, fun τ d g => ?_⟩
          obtain ⟨h5, w5, es5, e5, hd5⟩ := k3 τ (d + c) (ag c2 τ d g)
          refine ⟨h5, w5, es5, ?_, hd5⟩
          rw [Sem.runT_bind', h3 τ d (fun i hi q => g i (by omega) q)]
          exact e5
    | halt hh w1 =>
      intro h
      unfold Lcl
      rw [Sem.runT_bind', hr]
      cases hh with
      | panic v =>
        obtain ⟨c, h1, h2, h3⟩ := h
        exact ⟨c, h1, h2, fun τ d g => by rw [Sem.runT_bind', h3 τ d g]⟩
      | _ =>
        obtain ⟨c, h3⟩ := h
        refine ⟨c, fun τ d g => ?_⟩
        obtain ⟨h5, w5, es5, e5, hd5⟩ := h3 τ d g
        exact ⟨h5, w5, es5, by rw [Sem.runT_bind', e5], hd5⟩
def SimS {α β : Type} (P : Program) (Z : Env) (A : Rel → α → β → Prop) (R : Rel) (s : Sem α) (s' : Sem β) : Prop :=
  ∀ (R0 : Rel), R.Le R0 → ∀ w w' es es', WR Z R0 w w' → EsR Z R0 es es' → Met Z A R0 w w' (s.runT P w es) (s'.runT P w' es') ∧ Lcl P s w es
theorem SimS.met {α β : Type} {P : Program} {Z : Env} {A : Rel → α → β → Prop} {R : Rel} {s : Sem α} {s' : Sem β} (h : SimS P Z A R s s') (R0 : Rel) (h0 : R.Le R0) (w w' : World) (es es' : Array Event) (hw : WR Z R0 w w') (he : EsR Z R0 es es') :
    Met Z A R0 w w' (s.runT P w es) (s'.runT P w' es') := (h R0 h0 w w' es es' hw he).1
theorem SimS.lcl {α β : Type} {P : Program} {Z : Env} {A : Rel → α → β → Prop} {R : Rel} {s : Sem α} {s' : Sem β} (h : SimS P Z A R s s') (R0 : Rel) (h0 : R.Le R0) (w w' : World) (es es' : Array Event) (hw : WR Z R0 w w') (he : EsR Z R0 es es') :
    Lcl P s w es := (h R0 h0 w w' es es' hw he).2
section
variable {P : Program} {Z : Env} {R : Rel}
theorem SimS.weaken {α β : Type} {A B : Rel → α → β → Prop} {s : Sem α} {s' : Sem β} (h : SimS P Z A R s s') (hab : ∀ R1, R.Le R1 → ∀ a b, A R1 a b → B R1 a b) : SimS P Z B R s s' := by
  intro R0 h0 w w' es es' hw he
  refine ⟨?_, h.lcl R0 h0 w w' es es' hw he⟩
  have := h.met R0 h0 w w' es es' hw he
  revert this
  rcases s.runT P w es with ⟨r, es1⟩
  cases r with
  | ok a w1 =>
    rintro ⟨R1, b, w1', es1', e, t, x, y⟩
    exact ⟨R1, b, w1', es1', e, t, hab R1 (h0.trans t.le) a b x, y⟩
  | halt hh w1 => cases hh <;> exact id
theorem SimS.bind {α β γ δ : Type} {A : Rel → α → β → Prop} {B : Rel → γ → δ → Prop} {s : Sem α} {s' : Sem β} {k : α → Sem γ} {k' : β → Sem δ}
    (h : SimS P Z A R s s') (hk : ∀ R1, R.Le R1 → ∀ a b, A R1 a b → SimS P Z B R1 (k a) (k' b)) : SimS P Z B R (s.bind k) (s'.bind k') := by
  intro R0 h0 w w' es es' hw he
  refine ⟨?_, (h.lcl R0 h0 w w' es es' hw he).bind fun a w1 es1 hr => by
    have := h.met R0 h0 w w' es es' hw he
    rw [hr] at this
    obtain ⟨R1, b, w1', es1', e, t, x, y⟩ := this
    exact (hk R1 (h0.trans t.le) a b x).lcl R1 (.refl _) w1 w1' es1 es1' t.wr y⟩
  have := h.met R0 h0 w w' es es' hw he
  rw [Sem.runT_bind', Sem.runT_bind']
  revert this
  rcases s.runT P w es with ⟨r, es1⟩
  cases r with
  | ok a w1 =>
    rintro ⟨R1, b, w1', es1', e, t, x, y⟩
    rw [e]
    have h2 := (hk R1 (h0.trans t.le) a b x).met R1 (.refl _) w1 w1' es1 es1' t.wr y
    revert h2
    dsimp only
    rcases (k a).runT P w1 es1 with ⟨r2, es2⟩
    cases r2 with
    | ok c w2 =>
      rintro ⟨R2, d, w2', es2', e2, t2, x2, y2⟩
      exact ⟨R2, d, w2', es2', e2, t.trans t2, x2, y2⟩
    | halt hh w2 =>
      cases hh with
      | panic v =>
        rintro ⟨R2, v', w2', es2', e2, t2, x2, y2⟩
        exact ⟨R2, v', w2', es2', e2, t.trans t2, x2, y2⟩
      | _ => exact id
  | halt hh w1 =>
    cases hh with
    | panic v =>
      rintro ⟨R1, v', w1', es1', e, t, x, y⟩
      rw [e]
      exact ⟨R1, v', w1', es1', rfl, t, x, y⟩
    | _ => exact id
theorem SimS.pure {α β : Type} {A : Rel → α → β → Prop} {a : α} {b : β} (h : ∀ R1, R.Le R1 → A R1 a b) : SimS P Z A R (Sem.pure a) (Sem.pure b) :=
  fun R0 h0 w w' es es' hw he => ⟨⟨R0, b, w', es', rfl, .refl hw, h R0 h0, he⟩, .pure a w es⟩
theorem SimS.dead {α β : Type} {A : Rel → α → β → Prop} {s' : Sem β} {h : Halt} (hp : Dull h) : SimS P Z A R (Sem.halt h : Sem α) s' := by
  intro R0 h0 w w' es es' hw he
  refine ⟨?_, .dull fun τ d => ⟨h, _, _, rfl, hp⟩⟩
  cases h with
  | panic v => exact hp.elim
  | _ => exact hp
theorem SimS.panic {α β : Type} {A : Rel → α → β → Prop} {v v' : Value} (h : VR R v v') : SimS P Z A R (Sem.halt (.panic v) : Sem α) (Sem.halt (.panic v') : Sem β) :=
  fun R0 h0 w w' es es' hw he => ⟨⟨R0, v', w', es', rfl, .refl hw, h.mono h0, he⟩, ⟨0, rfl, rfl, fun _ _ _ => rfl⟩⟩
theorem SimS.program {α β : Type} {A : Rel → α → β → Prop} {k : Program → Sem α} {k' : Program → Sem β} (h : SimS P Z A R (k P) (k' P)) : SimS P Z A R (Sem.program k) (Sem.program k') :=
  fun R0 h0 w w' es es' hw he => ⟨h.met R0 h0 w w' es es' hw he, Lcl.step (s2 := k P) (w2 := w) (es2 := es) (fun _ _ => rfl) rfl rfl (h.lcl R0 h0 w w' es es' hw he)⟩
theorem Lcl.chosen {α : Type} {q : Question} {k : Nat → Sem α} {w : World} {es : Array Event} (hq : ¬ q.forced = true) (h : Lcl P (k (q.cut (w.tape w.drawn q))) { w with drawn := w.drawn + 1 } es) : Lcl P (Sem.choose q k) w es := by
  have e : ∀ w : World, (Sem.choose q k).runT P w es = (k (q.cut (w.tape w.drawn q))).runT P { w with drawn := w.drawn + 1 } es := fun w => by simp only [Sem.runT, hq, Bool.false_eq_true, if_false]
  have e2 : ∀ τ d c, Agree w (1 + c) τ d → (Sem.choose q k).runT P (w.re τ d) es = (k (q.cut (w.tape w.drawn q))).runT P (World.re { w with drawn := w.drawn + 1 } τ (d + 1)) es ∧ Agree { w with drawn := w.drawn + 1 } c τ (d + 1) := fun τ d c g => by
    have e0 : τ d q = w.tape w.drawn q := g 0 (by omega) q
    refine ⟨?_, fun i hi q' => ?_⟩
    · rw [e]
      show (k (q.cut (τ d q))).runT P (World.re w τ (d + 1)) es = _
      rw [e0]
      rfl
    · rw [show d + 1 + i = d + (1 + i) by omega]
      show _ = w.tape (w.drawn + 1 + i) q'
      rw [show w.drawn + 1 + i = w.drawn + (1 + i) by omega]
      exact g (1 + i) (by omega) q'
  unfold Lcl at h ⊢
  rw [e]
  revert h
  rcases (k (q.cut (w.tape w.drawn q))).runT P { w with drawn := w.drawn + 1 } es with ⟨r, es1⟩
  cases r with
  | ok a w1 =>
    rintro ⟨c, h1, h2, h3⟩
    refine ⟨1 + c, h1, by rw [h2]; show w.drawn + 1 + c = _; omega, fun τ d g => ?_⟩
    rw [(e2 τ d c g).1, h3 τ (d + 1) (e2 τ d c g).2, show d + 1 + c = d + (1 + c) by omega]
  | halt hh w1 =>
    cases hh with
    | panic v =>
      rintro ⟨c, h1, h2, h3⟩
      refine ⟨1 + c, h1, by rw [h2]; show w.drawn + 1 + c = _; omega, fun τ d g => ?_⟩
      rw [(e2 τ d c g).1, h3 τ (d + 1) (e2 τ d c g).2, show d + 1 + c = d + (1 + c) by omega]
    | _ =>
      rintro ⟨c, h3⟩
      refine ⟨1 + c, fun τ d g => ?_⟩
      obtain ⟨h5, w5, es5, e5, hd5⟩ := h3 τ (d + 1) (e2 τ d c g).2
      exact ⟨h5, w5, es5, (e2 τ d c g).1.trans e5, hd5⟩
theorem SimS.choose {α β : Type} {A : Rel → α → β → Prop} (q : Question) {k : Nat → Sem α} {k' : Nat → Sem β} (h : ∀ n, SimS P Z A R (k n) (k' n)) : SimS P Z A R (Sem.choose q k) (Sem.choose q k') := by
  intro R0 h0 w w' es es' hw he
  by_cases hq : q.forced = true
  · refine ⟨?_, Lcl.step (s2 := k 0) (w2 := w) (es2 := es) (fun τ d => by simp only [Sem.runT, hq, if_true]) rfl rfl ((h 0).lcl R0 h0 w w' es es' hw he)⟩
    simp only [Sem.runT, hq, if_true]
    exact (h 0).met R0 h0 w w' es es' hw he
  · have hw1 : WR Z R0 { w with drawn := w.drawn + 1 } { w' with drawn := w'.drawn + 1 } := ⟨hw.fn, hw.inj, hw.obj, hw.ice, hw.tape, by show w.drawn + 1 = w'.drawn + 1; rw [hw.drawn], hw.glob, hw.big, hw.big'⟩
    refine ⟨?_, Lcl.chosen hq ((h _).lcl R0 h0 _ _ es es' hw1 he)⟩
    simp only [Sem.runT, hq]
    have e : w'.tape w'.drawn q = w.tape w.drawn q := by rw [hw.tape, hw.drawn]
    rw [e]
    have hw2 : WR Z R0 { w with drawn := w.drawn + 1 } { w' with drawn := w'.drawn + 1 } := ⟨hw.fn, hw.inj, hw.obj, hw.ice, hw.tape, by show w.drawn + 1 = w'.drawn + 1; rw [hw.drawn], hw.glob, hw.big, hw.big'⟩
    have := (h (q.cut (w.tape w.drawn q))).met R0 h0 _ _ es es' hw2 he
    revert this
    simp only [Bool.false_eq_true, if_false]
    rcases (k (q.cut (w.tape w.drawn q))).runT P { w with drawn := w.drawn + 1 } es with ⟨r, es1⟩
    have turn : ∀ {R1 w1 w1'}, Turn Z R0 R1 { w with drawn := w.drawn + 1 } { w' with drawn := w'.drawn + 1 } w1 w1' → Turn Z R0 R1 w w' w1 w1' := fun t => ⟨t.le, t.new, t.wr, t.size, t.size', t.aside, t.still, t.mine, t.rest⟩
    cases r with
    | ok a w1 =>
      rintro ⟨R1, b, w1', es1', e, t, x, y⟩
      exact ⟨R1, b, w1', es1', e, turn t, x, y⟩
    | halt hh w1 =>
      cases hh with
      | panic v =>
        rintro ⟨R1, v', w1', es1', e, t, x, y⟩
        exact ⟨R1, v', w1', es1', e, turn t, x, y⟩
      | _ => exact id
theorem SimS.mark {α β : Type} {A : Rel → α → β → Prop} {m : Mark} {k : Sem α} {k' : Sem β} (hm : (∃ f, m = .extern f) ∨ m = .noRoom) (h : SimS P Z A R k k') : SimS P Z A R (Sem.mark m k) (Sem.mark m k') := by
  intro R0 h0 w w' es es' hw he
  have hp : EsR Z R0 (es.push ⟨.mark m, false, true⟩) (es'.push ⟨.mark m, false, true⟩) := he.push (by
    rcases hm with ⟨f, rfl⟩ | rfl
    · exact ⟨.ext f, rfl, rfl, fun x => by cases x⟩
    · exact ⟨.noRoom, rfl, rfl, fun x => by cases x⟩)
  exact ⟨h.met R0 h0 w w' _ _ hw hp, Lcl.step (s2 := k) (w2 := w) (es2 := es.push ⟨.mark m, false, true⟩) (fun _ _ => rfl) rfl rfl (h.lcl R0 h0 w w' _ _ hw hp)⟩
theorem WR.cell {w w' : World} (h : WR Z R w w') {a b : Addr} (x : AR R a b) {v : Value} (e : w.cell? a = some v) : ∃ u, w'.cell? b = some u ∧ VR R v u := by
  obtain ⟨o, p, h1, h2, h3⟩ := h.obj _ _ x.1
  unfold World.cell? at e ⊢
  rw [h1] at e
  rw [h2]
  cases h3 with
  | cells t c f =>
    simp only at e ⊢
    rw [← x.2.2, ← x.2.1]
    split at e
    · cases e
    · rename_i hs
      rw [if_neg hs]
      exact c.at_ e
  | map k e1 e2 => cases e
  | number l a => cases e
  | iter s n => cases e
  | miter0 s q l => cases e
  | miter s q l a => cases e
theorem WR.noCell {w w' : World} (h : WR Z R w w') {a b : Addr} (x : AR R a b) (e : w.cell? a = none) : ∀ at_ u, w.heap[a.block]? ≠ some (.view at_ u) := by
  intro at_ u hh
  obtain ⟨o, p, h1, h2, h3⟩ := h.obj _ _ x.1
  rw [h1] at hh
  cases hh
  cases h3
theorem WR.dull {w w' : World} (h : WR Z R w w') {a b : Addr} (x : AR R a b) (m : String) : Dull (w.noCell a m) := by
  obtain ⟨o, p, h1, h2, h3⟩ := h.obj _ _ x.1
  unfold World.noCell
  rw [h1]
  cases h3 <;> exact trivial
theorem WR.thaw {w w' : World} (h : WR Z R w w') {a b : Addr} (x : AR R a b) (e : w.frozen? a = false) : w'.frozen? b = false := by
  obtain ⟨o, p, h1, h2, h3⟩ := h.obj _ _ x.1
  unfold World.frozen? at e ⊢
  rw [h1] at e
  rw [h2]
  cases h3 with
  | @cells c d t f g hc hf =>
    simp only at e ⊢
    rw [← x.2.1]
    simp only [Bool.and_eq_false_iff, decide_eq_false_iff_not] at e ⊢
    have := hf a.off
    omega
  | map k e1 e2 => rfl
  | number l a => rfl
  | iter s n => rfl
  | miter0 s q l => rfl
  | miter s q l a => rfl
theorem Ice.frozen {w : World} {a : Addr} (h : Ice w a.block) {v : Value} (e : w.cell? a = some v) : w.frozen? a = true := by
  obtain ⟨c, t, n, h1, h2⟩ := h
  unfold World.cell? at e
  rw [h1] at e
  simp only at e
  split at e
  · cases e
  · have := (Array.getElem?_eq_some_iff.1 e).1
    unfold World.frozen?
    rw [h1]
    simp
    omega
theorem Met.dead {α β : Type} {A : Rel → α → β → Prop} {w w' w1 : World} {es : Array Event} {hh : Halt} {r' : Result β × Array Event} (h : Dull hh) : Met Z A R w w' ((.halt hh w1 : Result α), es) r' := by
  cases hh with
  | panic v => exact h.elim
  | _ => exact h
theorem SimS.load {α β : Type} {A : Rel → α → β → Prop} {m : Mode} {a b : Addr} (x : AR R a b) {k : Value → Sem α} {k' : Value → Sem β} (h : ∀ R1, R.Le R1 → ∀ v u, VR R1 v u → SimS P Z A R1 (k v) (k' u)) :
    SimS P Z A R (Sem.load m a k) (Sem.load m b k') := by
  intro R0 h0 w w' es es' hw he
  have er : ∀ τ d, (w.re τ d).cell? a = w.cell? a := fun _ _ => rfl
  cases hc : w.cell? a with
  | none =>
    have := hw.noCell (x.mono h0) hc
    refine ⟨?_, .dull fun τ d => ⟨w.noCell a "load: no such cell", w.re τ d, es, ?_, hw.dull (x.mono h0) _⟩⟩
    · simp only [Sem.runT, hc, World.farLoad]
      exact Met.dead (hw.dull (x.mono h0) _)
    · have ef : (w.re τ d).farLoad P a (m == .atomic) = .error (w.noCell a "load: no such cell") := by
        show w.farLoad P a (m == .atomic) = _
        unfold World.farLoad
        split
        · rename_i hx; exact absurd hx (this _ _)
        · rfl
      simp only [Sem.runT, er, hc, ef]
  | some v =>
    obtain ⟨u, e, hu⟩ := hw.cell (x.mono h0) hc
    have hp := he.push (v := ⟨.cell a, false, m == .atomic⟩) (w := ⟨.cell b, false, m == .atomic⟩) ⟨.cell (x.mono h0), rfl, rfl, fun y => by cases y⟩
    refine ⟨?_, Lcl.step (s2 := k v) (w2 := w) (es2 := es.push ⟨.cell a, false, m == .atomic⟩) (fun τ d => by simp only [Sem.runT, er, hc]) rfl rfl ((h R0 h0 v u hu).lcl R0 (.refl _) w w' _ _ hw hp)⟩
    simp only [Sem.runT, hc, e]
    exact (h R0 h0 v u hu).met R0 (.refl _) w w' _ _ hw hp
theorem setCell_other (w : World) (a : Addr) (v : Value) {b : Nat} (h : a.block ≠ b) : (w.setCell a v).heap[b]? = w.heap[b]? := by
  simp [World.setCell, Array.getElem?_modify, h]
theorem setCell_same (w : World) (a : Addr) (v : Value) {c : Array Value} {e : TypeId} {f : Nat × Nat} (h : w.heap[a.block]? = some (.cells c e f)) :
    (w.setCell a v).heap[a.block]? = some (.cells (if a.spot.isSome then c else c.setIfInBounds a.off v) e f) := by
  simp [World.setCell, Array.getElem?_modify, h]
theorem Turn.store {w w' : World} (hw : WR Z R w w') {a b : Addr} (x : AR R a b) {v u : Value} (hv : VR R v u) (hz : ¬ Z a.block) {c : Value} (hc : w.cell? a = some c) :
    Turn Z R R w w' (w.setCell a v) (w'.setCell b u) := by
  obtain ⟨o, p, h1, h2, h3⟩ := hw.obj _ _ x.1
  have hcell : ∃ c e f, o = .cells c e f := by
    unfold World.cell? at hc
    rw [h1] at hc
    cases o <;> first | exact ⟨_, _, _, rfl⟩ | cases hc
  obtain ⟨c0, e0, f0, rfl⟩ := hcell
  cases h3 with
  | @cells _ d _ _ g hcd hf =>
  refine ⟨.refl _, fun _ _ y => .inl y, ⟨hw.fn, hw.inj, fun i j y => ?_, fun i hi => ?_, hw.tape, hw.drawn, hw.glob, by simpa [World.setCell] using hw.big, by simpa [World.setCell] using hw.big'⟩, by simp [World.setCell], by simp [World.setCell], fun j _ hn => ?_, fun i j y z => ?_, fun j j1 j2 => absurd j2 (by simp [World.setCell]; omega), rfl, rfl, rfl⟩
  · by_cases e : i = a.block
    · subst e
      obtain rfl : j = b.block := hw.fn _ _ _ y x.1
      refine ⟨_, _, setCell_same w a v h1, setCell_same w' b u h2, .cells _ ?_ hf⟩
      rw [← x.2.2, ← x.2.1]
      split
      · exact hcd
      · exact hcd.set _ hv
    · have e' : b.block ≠ j := fun q => e (hw.inj _ _ _ y (q ▸ x.1))
      rw [setCell_other w a v (fun q => e q.symm), setCell_other w' b u e']
      exact hw.obj i j y
  · obtain ⟨c, t, n, q1, q2⟩ := hw.ice i hi
    exact ⟨c, t, n, (setCell_other w a v (fun q => hz (q ▸ hi))).trans q1, q2⟩
  · exact setCell_other w' b u (fun q => hn a.block (q ▸ x.1))
  · exact setCell_other w' b u (fun q => hz (hw.inj _ _ _ y (q ▸ x.1) ▸ z))
theorem runT_store {α : Type} (m : Mode) (a : Addr) (v : Value) (k : Sem α) (w : World) (es : Array Event) (h1 : ∀ c, v ≠ .agg c) (h2 : ∀ c, v ≠ .tuple c) :
    (Sem.store m a v k).runT P w es = match w.cell? a with
      | some _ => if w.frozen? a then (.halt (.unsupported (.unsafePointer "a write to bytes that a string shares")) w, es) else k.runT P (w.setCell a v) (es.push ⟨.cell a, true, m == .atomic⟩)
      | none => match w.farStore P a v (m == .atomic) with
        | .ok (w, touched) => k.runT P w (es ++ touched.toArray.map (⟨.cell ·, true, m == .atomic⟩))
        | .error h => (.halt h w, es) := by
  cases v <;> first | rfl | exact absurd rfl (h1 _) | exact absurd rfl (h2 _)
theorem SimS.store {α β : Type} {A : Rel → α → β → Prop} {m : Mode} {a b : Addr} (x : AR R a b) {v u : Value} (hv : VR R v u) {k : Sem α} {k' : Sem β} (h : SimS P Z A R k k') :
    SimS P Z A R (Sem.store m a v k) (Sem.store m b u k') := by
  intro R0 h0 w w' es es' hw he
  by_cases h1 : ∃ c, v = .agg c
  · obtain ⟨c, rfl⟩ := h1
    exact ⟨trivial, .dull fun τ d => ⟨_, _, _, rfl, trivial⟩⟩
  by_cases h2 : ∃ c, v = .tuple c
  · obtain ⟨c, rfl⟩ := h2
    exact ⟨trivial, .dull fun τ d => ⟨_, _, _, rfl, trivial⟩⟩
  have g1 : ∀ c, u ≠ .agg c := by
    intro c e; subst e
    cases hv with
    | junk h => cases h
    | agg => exact h1 ⟨_, rfl⟩
  have g2 : ∀ c, u ≠ .tuple c := by
    intro c e; subst e
    cases hv with
    | junk h => cases h
    | tuple => exact h2 ⟨_, rfl⟩
  have rs := fun w es => runT_store (P := P) m a v k w es (fun c e => h1 ⟨c, e⟩) (fun c e => h2 ⟨c, e⟩)
  have er : ∀ τ d, (w.re τ d).cell? a = w.cell? a := fun _ _ => rfl
  have ef : ∀ τ d, (w.re τ d).frozen? a = w.frozen? a := fun _ _ => rfl
  cases hc : w.cell? a with
  | none =>
    have := hw.noCell (x.mono h0) hc
    refine ⟨?_, .dull fun τ d => ⟨w.noCell a "store: no such cell", w.re τ d, es, ?_, hw.dull (x.mono h0) _⟩⟩
    · rw [rs, hc]
      simp only [World.farStore]
      exact Met.dead (hw.dull (x.mono h0) _)
    · have e2 : (w.re τ d).farStore P a v (m == .atomic) = .error (w.noCell a "store: no such cell") := by
        unfold World.farStore
        split
        · rename_i hx; exact absurd hx (this _ _)
        · rfl
      rw [rs, er, hc]
      simp only [e2]
  | some c =>
    obtain ⟨d, e, hd⟩ := hw.cell (x.mono h0) hc
    by_cases hf : w.frozen? a = true
    · refine ⟨?_, .dull fun τ d => ⟨.unsupported (.unsafePointer "a write to bytes that a string shares"), w.re τ d, es, by rw [rs, er, hc]; simp only [ef, hf, if_true], trivial⟩⟩
      rw [rs, hc]
      simp only [hf, if_true]
      exact trivial
    · have hf : w.frozen? a = false := by simpa using hf
      have hz : ¬ Z a.block := fun z => by have := (hw.ice _ z).frozen hc; rw [hf] at this; cases this
      have t := Turn.store hw (x.mono h0) (hv.mono h0) hz hc
      have hp := he.push (v := ⟨.cell a, true, m == .atomic⟩) (w := ⟨.cell b, true, m == .atomic⟩) ⟨.cell (x.mono h0), rfl, rfl, fun _ q hq => by cases hq; exact hz⟩
      refine ⟨?_, Lcl.step (s2 := k) (w2 := w.setCell a v) (es2 := es.push ⟨.cell a, true, m == .atomic⟩) (fun τ d => by rw [rs, er, hc]; simp only [ef, hf, Bool.false_eq_true, if_false]; rfl) rfl rfl (h.lcl R0 h0 _ _ _ _ t.wr hp)⟩
      rw [rs, hc, runT_store m b u k' w' es' g1 g2, e]
      simp only
      rw [hw.thaw (x.mono h0) hf, hf]
      simp only [Bool.false_eq_true, if_false]
      have := h.met R0 h0 _ _ _ _ t.wr hp
      revert this
      rcases k.runT P (w.setCell a v) (es.push ⟨.cell a, true, m == .atomic⟩) with ⟨r, es1⟩
      cases r with
      | ok a w1 =>
        rintro ⟨R1, b, w1', es1', e, t2, x, y⟩
        exact ⟨R1, b, w1', es1', e, t.trans t2, x, y⟩
      | halt hh w1 =>
        cases hh with
        | panic v =>
          rintro ⟨R1, v', w1', es1', e, t2, x, y⟩
          exact ⟨R1, v', w1', es1', e, t.trans t2, x, y⟩
        | _ => exact id
def Rel.plus (R : Rel) (a b : Nat) : Rel := fun x y => R x y ∨ (x = a ∧ y = b)
theorem SimS.new {α β : Type} {A : Rel → α → β → Prop} {o p : Obj} (x : OR R o p) {k : Nat → Sem α} {k' : Nat → Sem β} (h : ∀ R1, R.Le R1 → ∀ a b, R1 a b → SimS P Z A R1 (k a) (k' b)) :
    SimS P Z A R (Sem.new o k) (Sem.new p k') := by
  intro R0 h0 w w' es es' hw he
  have hle : R0.Le (R0.plus w.heap.size w'.heap.size) := fun _ _ y => .inl y
  have old : ∀ (o : Obj) (w : World) i, i < w.heap.size → ({ w with heap := w.heap.push o } : World).heap[i]? = w.heap[i]? := fun o w i hi => by
    simp [Array.getElem?_push, Nat.ne_of_lt hi]
  have t : Turn Z R0 (R0.plus w.heap.size w'.heap.size) w w' { w with heap := w.heap.push o } { w' with heap := w'.heap.push p } := by
    refine ⟨hle, fun a b y => y.imp id fun q => ⟨by rw [q.1]; exact Nat.le_refl _, by rw [q.2]; exact Nat.le_refl _⟩, ⟨?_, ?_, ?_, ?_, hw.tape, hw.drawn, ?_, Nat.le_trans hw.big (by simp), Nat.le_trans hw.big' (by simp)⟩, by simp, by simp, fun b hb _ => old p w' b hb, fun a b y _ => old p w' b (hw.lt y).2, fun b h1 h2 => ⟨w.heap.size, .inr ⟨rfl, by simp at h2; omega⟩⟩, rfl, rfl, rfl⟩
    · rintro a b c (y | ⟨rfl, rfl⟩) (z | ⟨z1, rfl⟩)
      · exact hw.fn _ _ _ y z
      · have := (hw.lt y).1; omega
      · have := (hw.lt z).1; omega
      · rfl
    · rintro a b c (y | ⟨rfl, rfl⟩) (z | ⟨rfl, z1⟩)
      · exact hw.inj _ _ _ y z
      · have := (hw.lt y).2; omega
      · have := (hw.lt z).2; omega
      · rfl
    · rintro a b (y | ⟨rfl, rfl⟩)
      · obtain ⟨o1, p1, e1, e2, e3⟩ := hw.obj a b y
        exact ⟨o1, p1, (old o w a (hw.lt y).1).trans e1, (old p w' b (hw.lt y).2).trans e2, e3.mono hle⟩
      · exact ⟨o, p, by simp, by simp, x.mono (h0.trans hle)⟩
    · intro a za
      obtain ⟨c, e, n, e1, e2⟩ := hw.ice a za
      exact ⟨c, e, n, (old o w a (Array.getElem?_eq_some_iff.1 e1).1).trans e1, e2⟩
    · rintro a b (y | ⟨rfl, rfl⟩) hg
      · exact hw.glob a b y hg
      · have := hw.big; have := hw.big'; omega
  have hs := h (R0.plus w.heap.size w'.heap.size) (h0.trans hle) _ _ (.inr ⟨rfl, rfl⟩)
  refine ⟨?_, Lcl.step (s2 := k w.heap.size) (w2 := { w with heap := w.heap.push o }) (es2 := es) (fun _ _ => rfl) rfl rfl (hs.lcl _ (.refl _) _ _ es es' t.wr (he.mono hle))⟩
  simp only [Sem.runT]
  have := hs.met _ (.refl _) _ _ es es' t.wr (he.mono hle)
  revert this
  rcases (k w.heap.size).runT P { w with heap := w.heap.push o } es with ⟨r, es1⟩
  cases r with
  | ok a w1 =>
    rintro ⟨R1, b, w1', es1', e, t2, x, y⟩
    exact ⟨R1, b, w1', es1', e, t.trans t2, x, y⟩
  | halt hh w1 =>
    cases hh with
    | panic v =>
      rintro ⟨R1, v', w1', es1', e, t2, x, y⟩
      exact ⟨R1, v', w1', es1', e, t.trans t2, x, y⟩
    | _ => exact id
theorem SimS.shape {α β : Type} {A : Rel → α → β → Prop} {a b : Nat} (x : R a b) {k : Option (TypeId × Nat) → Sem α} {k' : Option (TypeId × Nat) → Sem β} (h : ∀ s, SimS P Z A R (k s) (k' s)) :
    SimS P Z A R (Sem.shape a k) (Sem.shape b k') := by
  intro R0 h0 w w' es es' hw he
  obtain ⟨o, p, h1, h2, h3⟩ := hw.obj _ _ (h0 _ _ x)
  have e : w'.shape? b = w.shape? a := by
    unfold World.shape?
    rw [h1, h2]
    cases h3 with
    | cells t c f => simp only; rw [c.1]
    | map => rfl
    | number => rfl
    | iter => rfl
    | miter0 => rfl
    | miter => rfl
  refine ⟨?_, Lcl.step (s2 := k (w.shape? a)) (w2 := w) (es2 := es) (fun _ _ => rfl) rfl rfl ((h _).lcl R0 h0 w w' es es' hw he)⟩
  simp only [Sem.runT, e]
  exact (h _).met R0 h0 w w' es es' hw he
def esMap {R : Rel} {c d : Array MapEntry} : Prop := c.size = d.size ∧ ∀ (i : Nat) x y, c[i]? = some x → d[i]? = some y → VR R x.key y.key ∧ VR R x.val y.val ∧ x.born = y.born
theorem SimS.getObj {α β : Type} {A : Rel → α → β → Prop} {a b : Nat} (x : R a b) {k : Obj → Sem α} {k' : Obj → Sem β} (h : ∀ R1, R.Le R1 → ∀ o p, OR R1 o p → SimS P Z A R1 (k o) (k' p)) :
    SimS P Z A R (Sem.getObj a k) (Sem.getObj b k') := by
  intro R0 h0 w w' es es' hw he
  obtain ⟨o, p, h1, h2, h3⟩ := hw.obj _ _ (h0 _ _ x)
  have er : ∀ τ d, (w.re τ d).heap[a]? = w.heap[a]? := fun _ _ => rfl
  have hp := he.push (v := ⟨.obj a, false, o.isChan⟩) (w := ⟨.obj b, false, p.isChan⟩) ⟨.obj (h0 _ _ x), rfl, by cases h3 <;> rfl, fun y => by cases y⟩
  cases h3 with
  | cells t c f =>
    refine ⟨?_, .dull fun τ d => ⟨.stuck "getObj: a row of cells", w.re τ d, es, by simp only [Sem.runT, er, h1], trivial⟩⟩
    simp only [Sem.runT, h1, h2]
    exact trivial
  | map k e v =>
    refine ⟨?_, Lcl.step (w2 := w) (es2 := es.push ⟨.obj a, false, false⟩) (fun τ d => by simp only [Sem.runT, er, h1]; rfl) rfl rfl ((h R0 h0 _ _ (.map k e v)).lcl R0 (.refl _) w w' _ _ hw hp)⟩
    simp only [Sem.runT, h1, h2]
    exact (h R0 h0 _ _ (.map k e v)).met R0 (.refl _) w w' _ _ hw hp
  | number l y =>
    refine ⟨?_, Lcl.step (w2 := w) (es2 := es.push ⟨.obj a, false, false⟩) (fun τ d => by simp only [Sem.runT, er, h1]; rfl) rfl rfl ((h R0 h0 _ _ (.number l y)).lcl R0 (.refl _) w w' _ _ hw hp)⟩
    simp only [Sem.runT, h1, h2]
    exact (h R0 h0 _ _ (.number l y)).met R0 (.refl _) w w' _ _ hw hp
  | iter s n =>
    refine ⟨?_, Lcl.step (w2 := w) (es2 := es.push ⟨.obj a, false, false⟩) (fun τ d => by simp only [Sem.runT, er, h1]; rfl) rfl rfl ((h R0 h0 _ _ (.iter s n)).lcl R0 (.refl _) w w' _ _ hw hp)⟩
    simp only [Sem.runT, h1, h2]
    exact (h R0 h0 _ _ (.iter s n)).met R0 (.refl _) w w' _ _ hw hp
  | miter0 s q l =>
    refine ⟨?_, Lcl.step (w2 := w) (es2 := es.push ⟨.obj a, false, false⟩) (fun τ d => by simp only [Sem.runT, er, h1]; rfl) rfl rfl ((h R0 h0 _ _ (.miter0 s q l)).lcl R0 (.refl _) w w' _ _ hw hp)⟩
    simp only [Sem.runT, h1, h2]
    exact (h R0 h0 _ _ (.miter0 s q l)).met R0 (.refl _) w w' _ _ hw hp
  | miter s q l y =>
    refine ⟨?_, Lcl.step (w2 := w) (es2 := es.push ⟨.obj a, false, false⟩) (fun τ d => by simp only [Sem.runT, er, h1]; rfl) rfl rfl ((h R0 h0 _ _ (.miter s q l y)).lcl R0 (.refl _) w w' _ _ hw hp)⟩
    simp only [Sem.runT, h1, h2]
    exact (h R0 h0 _ _ (.miter s q l y)).met R0 (.refl _) w w' _ _ hw hp
theorem SimS.setObj {α β : Type} {A : Rel → α → β → Prop} {a b : Nat} (x : R a b) {o p : Obj} (hop : OR R o p) {k : Sem α} {k' : Sem β} (h : SimS P Z A R k k') :
    SimS P Z A R (Sem.setObj a o k) (Sem.setObj b p k') := by
  intro R0 h0 w w' es es' hw he
  have xr := h0 _ _ x
  obtain ⟨o1, p1, h1, h2, h3⟩ := hw.obj _ _ xr
  have hcase : (∃ c e f, o1 = .cells c e f) ∨ (∀ c e f, o1 ≠ .cells c e f) := by
    cases o1 <;> first | exact .inl ⟨_, _, _, rfl⟩ | exact .inr fun _ _ _ q => by cases q
  rcases hcase with ⟨c, e, f, rfl⟩ | hno
  · refine ⟨?_, .dull fun τ d => ⟨.stuck "setObj: a row of cells", w.re τ d, es, by simp only [Sem.runT, show (w.re τ d).heap[a]? = w.heap[a]? from rfl, h1], trivial⟩⟩
    simp only [Sem.runT, h1]
    exact trivial
  · have hno' : ∀ c e f, p1 ≠ .cells c e f := fun c e f q => by
      subst q
      cases h3
      exact hno _ _ _ rfl
    have run1 : ∀ (w : World) (r : Nat) (o ob : Obj) (k : Sem α) es, w.heap[r]? = some ob → (∀ c e f, ob ≠ .cells c e f) → (Sem.setObj r o k).runT P w es = k.runT P { w with heap := w.heap.setIfInBounds r o } (es.push ⟨.obj r, true, o.isChan⟩) := fun w r o ob k es h hn => by
      simp only [Sem.runT, h]
    have run2 : ∀ (w : World) (r : Nat) (o ob : Obj) (k : Sem β) es, w.heap[r]? = some ob → (∀ c e f, ob ≠ .cells c e f) → (Sem.setObj r o k).runT P w es = k.runT P { w with heap := w.heap.setIfInBounds r o } (es.push ⟨.obj r, true, o.isChan⟩) := fun w r o ob k es h hn => by
      simp only [Sem.runT, h]
    have hz : ¬ Z a := fun z => by
      obtain ⟨c, t, n, e1, _⟩ := hw.ice a z
      rw [h1] at e1
      exact hno _ _ _ (Option.some.inj e1)
    have other : ∀ (w : World) (a : Nat) (o : Obj) i, a ≠ i → ({ w with heap := w.heap.setIfInBounds a o } : World).heap[i]? = w.heap[i]? := fun w a o i hi => by
      simp [Array.getElem?_setIfInBounds, hi]
    have t : Turn Z R0 R0 w w' { w with heap := w.heap.setIfInBounds a o } { w' with heap := w'.heap.setIfInBounds b p } := by
      refine ⟨.refl _, fun _ _ y => .inl y, ⟨hw.fn, hw.inj, fun i j y => ?_, fun i hi => ?_, hw.tape, hw.drawn, hw.glob, by simpa using hw.big, by simpa using hw.big'⟩, by simp, by simp, fun j _ hn => ?_, fun i j y z => ?_, fun j j1 j2 => absurd j2 (by simp; omega), rfl, rfl, rfl⟩
      · by_cases e : i = a
        · subst e
          obtain rfl : j = b := hw.fn _ _ _ y xr
          refine ⟨o, p, ?_, ?_, hop.mono h0⟩
          · simp [Array.getElem?_setIfInBounds, (hw.lt xr).1]
          · simp [Array.getElem?_setIfInBounds, (hw.lt xr).2]
        · have e' : b ≠ j := fun q => e (hw.inj _ _ _ y (q ▸ xr))
          rw [other w a o i (fun q => e q.symm), other w' b p j e']
          exact hw.obj i j y
      · obtain ⟨c, t, n, q1, q2⟩ := hw.ice i hi
        exact ⟨c, t, n, (other w a o i (fun q => hz (q ▸ hi))).trans q1, q2⟩
      · exact other w' b p j (fun q => hn a (q ▸ xr))
      · exact other w' b p j (fun q => hz (hw.inj _ _ _ y (q ▸ xr) ▸ z))
    have ec : o.isChan = p.isChan := by cases hop <;> rfl
    have hp := he.push (v := ⟨.obj a, true, o.isChan⟩) (w := ⟨.obj b, true, p.isChan⟩) ⟨.obj xr, rfl, ec, fun _ q hq => by cases hq; exact hz⟩
    refine ⟨?_, Lcl.step (s2 := k) (w2 := { w with heap := w.heap.setIfInBounds a o }) (es2 := es.push ⟨.obj a, true, o.isChan⟩) (fun τ d => run1 (w.re τ d) a o o1 k es h1 hno) rfl rfl (h.lcl R0 h0 _ _ _ _ t.wr hp)⟩
    rw [run1 w a o o1 k es h1 hno, run2 w' b p p1 k' es' h2 hno']
    have := h.met R0 h0 _ _ _ _ t.wr hp
    revert this
    rcases k.runT P { w with heap := w.heap.setIfInBounds a o } (es.push ⟨.obj a, true, o.isChan⟩) with ⟨r, es1⟩
    cases r with
    | ok a w1 =>
      rintro ⟨R1, b, w1', es1', e, t2, x, y⟩
      exact ⟨R1, b, w1', es1', e, t.trans t2, x, y⟩
    | halt hh w1 =>
      cases hh with
      | panic v =>
        rintro ⟨R1, v', w1', es1', e, t2, x, y⟩
        exact ⟨R1, v', w1', es1', e, t.trans t2, x, y⟩
      | _ => exact id
theorem SimS.sameBlock {α β : Type} {A : Rel → α → β → Prop} {a b c d : Nat} (x : R a b) (y : R c d) {s : Bool → Sem α} {s' : Bool → Sem β} (h : ∀ g, SimS P Z A R (s g) (s' g)) : SimS P Z A R (s (a == c)) (s' (b == d)) := by
  intro R0 h0 w w' es es' hw he
  have e : (b == d) = (a == c) := by
    by_cases q : a = c
    · subst q
      rw [hw.fn _ _ _ (h0 _ _ x) (h0 _ _ y), beq_self_eq_true, beq_self_eq_true]
    · have : b ≠ d := fun z => q (hw.inj _ _ _ (h0 _ _ x) (z ▸ h0 _ _ y))
      rw [beq_eq_false_iff_ne.2 q, beq_eq_false_iff_ne.2 this]
  rw [e]
  exact h _ R0 h0 w w' es es' hw he
theorem SimS.lowBlock {α β : Type} {A : Rel → α → β → Prop} {a b : Nat} (x : R a b) {s : Sem α} {s' : Sem β} (h : a < Z.glob → a = b → SimS P Z A R s s') (hs : ¬ a < Z.glob → ¬ b < Z.glob → SimS P Z A R s s') : SimS P Z A R s s' := by
  intro R0 h0 w w' es es' hw he
  by_cases q : a < Z.glob
  · exact h q (hw.glob _ _ (h0 _ _ x) (.inl q)) R0 h0 w w' es es' hw he
  · exact hs q (fun z => q (by have := hw.glob _ _ (h0 _ _ x) (.inr z); omega)) R0 h0 w w' es es' hw he
end
end Ren
end Go.Proofs.YtdkpbobglogmoaaGreat
