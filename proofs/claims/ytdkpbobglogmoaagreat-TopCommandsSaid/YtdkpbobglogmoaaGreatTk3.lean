/- Parts of the proof of TopCommandsProof: RenOp2 RenOp3 RenOp4. -/
import Derived.Test.YtdkpbobglogmoaaGreatTk2
set_option linter.unusedVariables false
set_option linter.unusedSimpArgs false
set_option maxRecDepth 100000
set_option maxHeartbeats 32000000
namespace Go.Proofs.YtdkpbobglogmoaaGreat
open Go
namespace Ren
section
variable {P : Program} {Z : Env} {R : Rel} {α β : Type} {A : Rel → α → β → Prop}
theorem sim_intArith (op : BinOp) (k : IntKind) (x y : Int) : SimS P Z VR R (Op.intArith op k x y) (Op.intArith op k x y) := by
  unfold Op.intArith
  split <;> first | exact sim_pure fun _ _ => .int _ _ | exact sim_stuck
theorem sim_intDiv (op : BinOp) (k : IntKind) (x y : Int) : SimS P Z VR R (Op.intDiv op k x y) (Op.intDiv op k x y) := by
  unfold Op.intDiv
  split
  · exact sim_runtimePanic (e := .error _) trivial
  · split <;> first | exact sim_pure fun _ _ => .int _ _ | exact sim_stuck
theorem sim_intBits (op : BinOp) (k : IntKind) (x y : Int) : SimS P Z VR R (Op.intBits op k x y) (Op.intBits op k x y) := by
  unfold Op.intBits
  dsimp only
  split <;> first | exact sim_pure fun _ _ => .int _ _ | exact sim_stuck
theorem sim_intCmp (op : BinOp) (x y : Int) : SimS P Z VR R (Op.intCmp op x y) (Op.intCmp op x y) := by
  unfold Op.intCmp
  split <;> first | exact sim_pure fun _ _ => .bool _ | exact sim_stuck
theorem sim_shift (op : BinOp) (k : IntKind) (x : Int) (j : IntKind) (y : Int) : SimS P Z VR R (Op.shift op k x j y) (Op.shift op k x j y) := by
  unfold Op.shift
  split
  · exact sim_runtimePanic (e := .error _) trivial
  · dsimp only
    split <;> first | exact sim_pure fun _ _ => .int _ _ | exact sim_stuck
theorem sim_stringOp (op : BinOp) (x y : ByteArray) : SimS P Z VR R (Op.stringOp op x y) (Op.stringOp op x y) := by
  unfold Op.stringOp
  dsimp only
  split
  · split
    · exact sim_unsupported trivial
    · exact sim_pure fun _ _ => .string _
  all_goals first | exact sim_pure fun _ _ => .bool _ | exact sim_stuck
theorem sim_floatArith (op : BinOp) (k : FloatKind) (x y : Nat) : SimS P Z VR R (Op.floatArith op k x y) (Op.floatArith op k x y) := by
  unfold Op.floatArith
  dsimp only
  have fin : ∀ {R1 : Rel} (r : Option Nat), SimS P Z VR R1 (match r with | some r => pure (Value.float k r) | none => do pure (Value.float k (← choose (.nanBits k x y)))) (match r with | some r => pure (Value.float k r) | none => do pure (Value.float k (← choose (.nanBits k x y)))) := by
    intro R1 r
    cases r with
    | some r => exact sim_pure fun _ _ => .float _ _
    | none => exact sim_same (sim_choose _) fun _ _ _ _ => sim_pure fun _ _ => .float _ _
  split <;> first | exact fin _ | exact SimS.dead (h := .stuck _) trivial
theorem sim_floatCmp (op : BinOp) (k : FloatKind) (x y : Nat) : SimS P Z VR R (Op.floatCmp op k x y) (Op.floatCmp op k x y) := by
  unfold Op.floatCmp
  dsimp only
  split <;> first | exact sim_pure fun _ _ => .bool _ | exact sim_stuck
theorem sim_viewAt {a b : Nat} (x : R a b) : SimS P Z (fun _ a b => a = none ∧ b = none) R (viewAt a) (viewAt b) := by
  unfold viewAt
  refine sim_bind (sim_shape x) fun R1 r1 s s' e => ?_
  cases e
  split
  · exact sim_pure fun _ _ => ⟨rfl, rfl⟩
  · refine sim_bind (sim_getObj (r1 _ _ x)) fun R2 r2 o p h => ?_
    cases h <;> exact sim_pure fun _ _ => ⟨rfl, rfl⟩
theorem sim_numberAt {a b : Nat} (x : R a b) : SimS P Z (fun R1 s s' => (s = none ∧ s' = none) ∨ ∃ c d l, s = some (c, l) ∧ s' = some (d, l) ∧ AR R1 c d) R (numberAt a) (numberAt b) := by
  unfold numberAt
  refine sim_bind (sim_shape x) fun R1 r1 s s' e => ?_
  cases e
  split
  · exact sim_pure fun _ _ => .inl ⟨rfl, rfl⟩
  · refine sim_bind (sim_getObj (r1 _ _ x)) fun R2 r2 o p h => ?_
    cases h with
    | number l y => exact sim_pure fun R3 r3 => .inr ⟨_, _, l, rfl, rfl, y.mono r3⟩
    | _ => exact sim_pure fun _ _ => .inl ⟨rfl, rfl⟩
theorem sim_behindNumber {a b : Addr} (x : AR R a b) : SimS P Z (fun R1 s s' => AR R1 s.1 s'.1 ∧ s.2 = s'.2) R (behindNumber a) (behindNumber b) := by
  unfold behindNumber
  refine sim_bind (sim_numberAt x.1) fun R1 r1 s s' h => sim_pure fun R2 r2 => ?_
  rcases h with ⟨rfl, rfl⟩ | ⟨c, d, l, rfl, rfl, h⟩
  · exact ⟨(x.mono r1).mono r2, rfl⟩
  · exact ⟨h.mono r2, rfl⟩
theorem sim_noView {a b : Addr} (x : AR R a b) : SimS P Z UR R (noView a) (noView b) := by
  unfold noView
  refine sim_bind (sim_viewAt x.1) fun R1 r1 s s' h => ?_
  obtain ⟨rfl, rfl⟩ := h
  exact SimS.pure fun _ _ => trivial
theorem sim_byteOf {a b : Addr} (x : AR R a b) : SimS P Z (fun _ a b => a = b ∧ True) R (byteOf a) (byteOf b) := by
  unfold byteOf
  rw [← x.2.2]
  cases hs : a.spot with
  | some s => exact sim_pure fun _ _ => ⟨rfl, trivial⟩
  | none =>
    dsimp only
    refine sim_same sim_program fun R1 r1 p hp => ?_
    subst hp
    refine sim_bind (sim_noView (x.mono r1)) fun R2 r2 _ _ _ => ?_
    refine sim_bind (sim_shape ((x.mono r1).mono r2).1) fun R3 r3 s s' e => ?_
    cases e
    rw [← x.2.1]
    split
    · rename_i e n
      split
      · exact sim_pure fun _ _ => ⟨rfl, trivial⟩
      · split
        · exact sim_pure fun _ _ => ⟨rfl, trivial⟩
        · exact sim_stuck
    · exact sim_stuck
theorem sim_fallen {s' : Sem β} {γ : Type} {h : Halt} {k : γ → Sem α} (hd : Dull h) : SimS P Z A R ((Sem.halt h : Sem γ) >>= k) s' := SimS.dead (h := h) hd
theorem sim_unsafeAddP (t : TypeId) {x x' y y' : Value} (hx : VR R x x') (hy : VR R y y') : SimS P Z (fun R1 a b => ∃ p q, a = .pointer (some p) ∧ b = .pointer (some q) ∧ AR R1 p q) R (Builtin.unsafeAdd_ #[] t #[x, y]) (Builtin.unsafeAdd_ #[] t #[x', y']) := by
  unfold Builtin.unsafeAdd_
  cases hx with
  | ptr0 =>
    refine sim_bind (sim_asInt hy) fun R1 r1 n n' e => ?_
    obtain ⟨rfl, _⟩ := e
    dsimp only
    split
    · exact sim_fallen trivial
    · split
      · exact sim_fallen trivial
      · exact sim_unsupported trivial
  | @ptr a b hab =>
    refine sim_bind (sim_asInt hy) fun R1 r1 n n' e => ?_
    obtain ⟨rfl, _⟩ := e
    dsimp only
    split
    · refine sim_bind (sim_viewAt (r1 _ _ hab.1)) fun R2 r2 s s' h => ?_
      obtain ⟨rfl, rfl⟩ := h
      exact sim_pure fun R3 r3 => ⟨_, _, rfl, rfl, ((hab.mono r1).mono r2).mono r3⟩
    · split
      · exact sim_fallen trivial
      · refine sim_bind (sim_shape (r1 _ _ hab.1)) fun R2 r2 s s' e => ?_
        cases e
        split
        · refine sim_same sim_program fun R3 r3 p hp => ?_
          rw [← hab.2.1]
          split
          · exact sim_pure fun R4 r4 => ⟨_, _, rfl, rfl, r4 _ _ (r3 _ _ (r2 _ _ (r1 _ _ hab.1))), rfl, hab.2.2⟩
          · exact sim_unsupported trivial
        · exact sim_unsupported trivial
  | _ => exact sim_stuck
theorem sim_unsafeAdd (t : TypeId) {x x' y y' : Value} (hx : VR R x x') (hy : VR R y y') : SimS P Z VR R (Builtin.unsafeAdd_ #[] t #[x, y]) (Builtin.unsafeAdd_ #[] t #[x', y']) :=
  (sim_unsafeAddP t hx hy).weaken fun R1 r1 a b ⟨p, q, e1, e2, h⟩ => by subst e1 e2; exact .ptr h
theorem sim_asNumber {a b : Addr} (x : AR R a b) (l : Bool) : SimS P Z VR R (asNumber a l) (asNumber b l) := by
  unfold asNumber
  exact sim_bind (sim_newObj (.number l x)) fun R1 r1 a b hab => sim_pure fun R2 r2 => .ptr ⟨r2 _ _ hab, rfl, rfl⟩
theorem sim_movedNumber (t : TypeId) {x x' y y' : Value} (hx : VR R x x') (hy : VR R y y') : SimS P Z VR R (movedNumber t x y) (movedNumber t x' y') := by
  unfold movedNumber
  refine sim_same (sim_underlying t) fun R1 r1 d hd => ?_
  dsimp only
  split
  · exact sim_fallen trivial
  · cases hx with
    | @ptr a b hab =>
      refine sim_bind (sim_behindNumber (hab.mono r1)) fun R2 r2 s s' h => ?_
      obtain ⟨a1, l1⟩ := s
      obtain ⟨b1, l2⟩ := s'
      obtain ⟨h1, h2⟩ := h
      cases h2
      dsimp only
      refine sim_bind (sim_unsafeAddP t (.ptr h1) ((hy.mono r1).mono r2)) fun R3 r3 v u hv => ?_
      obtain ⟨p, q, rfl, rfl, h⟩ := hv
      exact sim_asNumber h _
    | ptr0 => exact sim_unsafeAdd t .ptr0 (hy.mono r1)
    | _ => exact sim_stuck
theorem sim_movedPointer (t : TypeId) {x x' y y' : Value} (hx : VR R x x') (hy : VR R y y') : SimS P Z VR R (movedPointer t x y) (movedPointer t x' y') := by
  unfold movedPointer
  dsimp only
  cases hx with
  | @ptr a b hab =>
    refine sim_bind (sim_numberAt hab.1) fun R1 r1 s s' h => ?_
    have e : s.isSome = s'.isSome := by rcases h with ⟨rfl, rfl⟩ | ⟨_, _, _, rfl, rfl, _⟩ <;> rfl
    rw [← e]
    split
    · exact sim_fallen trivial
    · exact sim_unsafeAdd t (.ptr (hab.mono r1)) (hy.mono r1)
  | ptr0 => exact sim_unsafeAdd t .ptr0 hy
  | _ => exact sim_stuck
theorem sim_twoPlaces (hg : P.globals.size ≤ Z.glob) {a a' b b' : Addr} (x : AR R a a') (y : AR R b b') : SimS P Z (fun _ a b => a = b ∧ True) R (Op.twoPlaces a b) (Op.twoPlaces a' b') := by
  unfold Op.twoPlaces
  dsimp only
  refine sim_same sim_program fun R1 r1 p hp => ?_
  subst hp
  have main : SimS p Z (fun _ a b => a = b ∧ True) R1 (do pure ((← byteOf a), (← byteOf b)) : Sem (Nat × Nat)) (do pure ((← byteOf a'), (← byteOf b'))) := by
    refine sim_bind (sim_byteOf (x.mono r1)) fun R2 r2 m m' e => ?_
    obtain ⟨rfl, _⟩ := e
    refine sim_bind (sim_byteOf ((y.mono r1).mono r2)) fun R3 r3 m m' e => ?_
    obtain ⟨rfl, _⟩ := e
    exact sim_pure fun _ _ => ⟨rfl, trivial⟩
  refine SimS.lowBlock (r1 _ _ x.1) (fun q e => ?_) (fun q q' => ?_)
  · rw [← e]
    have key := SimS.sameBlock (P := p) (Z := Z) (A := fun _ (a b : Nat × Nat) => a = b ∧ True) (r1 _ _ x.1) (r1 _ _ y.1)
      (s := fun g => if (!g || decide (a.block ≥ p.globals.size)) = true then (unsupported .addressObserved >>= fun (_ : Unit) => do pure ((← byteOf a), (← byteOf b))) else do pure ((← byteOf a), (← byteOf b)))
      (s' := fun g => if (!g || decide (a.block ≥ p.globals.size)) = true then (unsupported .addressObserved >>= fun (_ : Unit) => do pure ((← byteOf a'), (← byteOf b'))) else do pure ((← byteOf a'), (← byteOf b'))) (fun g => by
        split
        · exact sim_fallen trivial
        · exact main)
    rw [← e] at key
    exact key
  · have : decide (a.block ≥ p.globals.size) = true := decide_eq_true (by omega)
    rw [this, Bool.or_true, if_pos rfl]
    exact sim_fallen trivial
theorem sim_addrSub (hg : P.globals.size ≤ Z.glob) (k : IntKind) {a a' b b' : Addr} (x : AR R a a') (y : AR R b b') : SimS P Z VR R (Op.addrSub k a b) (Op.addrSub k a' b') := by
  unfold Op.addrSub
  refine sim_bind (sim_twoPlaces hg x y) fun R1 r1 s s' e => ?_
  obtain ⟨rfl, _⟩ := e
  exact sim_pure fun _ _ => .int _ _
theorem sim_addrCmp (hg : P.globals.size ≤ Z.glob) (op : BinOp) {a a' b b' : Addr} (x : AR R a a') (y : AR R b b') : SimS P Z VR R (Op.addrCmp op a b) (Op.addrCmp op a' b') := by
  unfold Op.addrCmp
  refine sim_bind (sim_twoPlaces hg x y) fun R1 r1 s s' e => ?_
  obtain ⟨rfl, _⟩ := e
  dsimp only
  split <;> first | exact sim_pure fun _ _ => .bool _ | exact sim_unsupported trivial
theorem sim_addrMod (k : IntKind) {a a' : Addr} (x : AR R a a') (n : Int) : SimS P Z VR R (Op.addrMod k a n) (Op.addrMod k a' n) := by
  unfold Op.addrMod
  refine sim_bind (sim_shape x.1) fun R1 r1 s s' e => ?_
  cases e
  split
  · rename_i e m
    refine sim_same (sim_typeInfo e) fun R2 r2 i _ => ?_
    dsimp only
    split
    · exact sim_fallen trivial
    · refine sim_bind (sim_byteOf ((x.mono r1).mono r2)) fun R3 r3 m m' e => ?_
      obtain ⟨rfl, _⟩ := e
      exact sim_pure fun _ _ => .int _ _
  · exact sim_unsupported trivial
def EqT (P : Program) : Nat → TypeId → Bool
  | 0, _ => true
  | d + 1, t => match P.underlying t with
    | some .bool | some (.int _) | some (.float _) | some .string | some (.slice _) | some (.map _ _) | some (.func _ _ _) => true
    | some (.struct fs) => fs.toList.all fun f => f.name == "_" || EqT P d f.type
    | some (.array _ e) => EqT P d e
    | _ => false
abbrev BR : Rel → Bool → Bool → Prop := fun _ a b => a = b ∧ True
theorem sim_forInL {γ σ : Type} : ∀ (l : List γ) {f g : γ → σ → Sem (ForInStep σ)} {R : Rel}, (∀ R1, R.Le R1 → ∀ c ∈ l, ∀ s, SimS P Z (fun _ a b => a = b ∧ True) R1 (f c s) (g c s)) → ∀ s, SimS P Z (fun _ a b => a = b ∧ True) R (forIn l s f) (forIn l s g)
  | [], f, g, R, h, s => by simp only [List.forIn_nil]; exact sim_pure fun _ _ => ⟨rfl, trivial⟩
  | c :: l, f, g, R, h, s => by
    simp only [List.forIn_cons]
    refine sim_bind (h R (.refl _) c (by simp) s) fun R1 r1 a b e => ?_
    obtain ⟨rfl, _⟩ := e
    cases a with
    | done s => exact sim_pure fun _ _ => ⟨rfl, trivial⟩
    | yield s => exact sim_forInL l (fun R2 r2 c hc s => h R2 (r1.trans r2) c (by simp [hc]) s) s
theorem sim_forInA {γ σ : Type} (c : Array γ) {f g : γ → σ → Sem (ForInStep σ)} (h : ∀ R1, R.Le R1 → ∀ x ∈ c.toList, ∀ s, SimS P Z (fun _ a b => a = b ∧ True) R1 (f x s) (g x s)) (s : σ) : SimS P Z (fun _ a b => a = b ∧ True) R (forIn c s f) (forIn c s g) := by
  rw [← Array.forIn_toList, ← Array.forIn_toList]
  exact sim_forInL _ h s
theorem sim_forInR {σ : Type} (n : Nat) {f g : Nat → σ → Sem (ForInStep σ)} (h : ∀ R1, R.Le R1 → ∀ x, ∀ s, SimS P Z (fun _ a b => a = b ∧ True) R1 (f x s) (g x s)) (s : σ) : SimS P Z (fun _ a b => a = b ∧ True) R (forIn [:n] s f) (forIn [:n] s g) := by
  simp only [Std.Legacy.Range.forIn_eq_forIn_range']
  exact sim_forInL _ (fun R1 r1 c _ s => h R1 r1 c s) s
theorem SimS.sameAddr {a a' b b' : Addr} (x : AR R a a') (y : AR R b b') {s : Bool → Sem α} {s' : Bool → Sem β} (h : ∀ g, SimS P Z A R (s g) (s' g)) : SimS P Z A R (s (a == b)) (s' (a' == b')) := by
  have key := SimS.sameBlock (P := P) (Z := Z) (A := A) x.1 y.1 (s := fun g => s (g && (a.off == b.off && a.spot == b.spot))) (s' := fun g => s' (g && (a.off == b.off && a.spot == b.spot))) (fun g => h _)
  have e1 : (a == b) = (a.block == b.block && (a.off == b.off && a.spot == b.spot)) := by
    obtain ⟨a1, a2, a3⟩ := a
    obtain ⟨b1, b2, b3⟩ := b
    rw [Bool.eq_iff_iff]
    simp
  have e2 : (a' == b') = (a'.block == b'.block && (a.off == b.off && a.spot == b.spot)) := by
    rw [x.2.1, x.2.2, y.2.1, y.2.2]
    obtain ⟨a1, a2, a3⟩ := a'
    obtain ⟨b1, b2, b3⟩ := b'
    rw [Bool.eq_iff_iff]
    simp
  rw [e1, e2]
  exact key
theorem sim_numAddr (hg : P.globals.size ≤ Z.glob) (t : TypeId) {a a' b b' : Addr} (x : AR R a a') (y : AR R b b') : SimS P Z BR R
    (do
      let u ← behindNumber a
      let v ← behindNumber b
      let p ← program
      if (u.fst.block == v.fst.block && decide (u.fst.block < p.globals.size)) = true then do
        let m ← byteOf u.fst
        let n ← byteOf v.fst
        pure (m == n)
      else do
        let i ← typeInfo t
        match i.desc with
        | .named "sync.copyChecker" _ => if (u.fst == v.fst) = true then pure true else unsupported .addressObserved
        | _ => unsupported .addressObserved)
    (do
      let u ← behindNumber a'
      let v ← behindNumber b'
      let p ← program
      if (u.fst.block == v.fst.block && decide (u.fst.block < p.globals.size)) = true then do
        let m ← byteOf u.fst
        let n ← byteOf v.fst
        pure (m == n)
      else do
        let i ← typeInfo t
        match i.desc with
        | .named "sync.copyChecker" _ => if (u.fst == v.fst) = true then pure true else unsupported .addressObserved
        | _ => unsupported .addressObserved) := by
  refine sim_bind (sim_behindNumber x) fun R1 r1 u u' hu => sim_bind (sim_behindNumber (y.mono r1)) fun R2 r2 v v' hv => sim_same sim_program fun R3 r3 p hp => ?_
  subst hp
  have hu := (hu.1.mono r2).mono r3
  have hv := hv.1.mono r3
  have yes : SimS p Z BR R3 (do
        let m ← byteOf u.fst
        let n ← byteOf v.fst
        pure (m == n)) (do
        let m ← byteOf u'.fst
        let n ← byteOf v'.fst
        pure (m == n)) := by
    refine sim_bind (sim_byteOf hu) fun R4 r4 m m' e => ?_
    obtain ⟨rfl, _⟩ := e
    refine sim_bind (sim_byteOf (hv.mono r4)) fun R5 r5 n n' e => ?_
    obtain ⟨rfl, _⟩ := e
    exact sim_pure fun _ _ => ⟨rfl, trivial⟩
  have no : SimS p Z BR R3 (do
        let i ← typeInfo t
        match i.desc with
        | .named "sync.copyChecker" _ => if (u.fst == v.fst) = true then pure true else unsupported .addressObserved
        | _ => unsupported .addressObserved) (do
        let i ← typeInfo t
        match i.desc with
        | .named "sync.copyChecker" _ => if (u'.fst == v'.fst) = true then pure true else unsupported .addressObserved
        | _ => unsupported .addressObserved) := by
    refine sim_same (sim_typeInfo t) fun R4 r4 i _ => ?_
    split
    · exact SimS.sameAddr (hu.mono r4) (hv.mono r4) (s := fun g => if g = true then pure true else unsupported .addressObserved) (s' := fun g => if g = true then pure true else unsupported .addressObserved) fun g => by
        split
        · exact sim_pure fun _ _ => ⟨rfl, trivial⟩
        · exact sim_unsupported trivial
    · exact sim_unsupported trivial
  refine SimS.lowBlock hu.1 (fun q e => ?_) (fun q q' => ?_)
  · rw [← e]
    have key := SimS.sameBlock (P := p) (Z := Z) (A := BR) hu.1 hv.1 (s := fun g => if (g && decide (u.fst.block < p.globals.size)) = true then (do
        let m ← byteOf u.fst
        let n ← byteOf v.fst
        pure (m == n)) else (do
        let i ← typeInfo t
        match i.desc with
        | .named "sync.copyChecker" _ => if (u.fst == v.fst) = true then pure true else unsupported .addressObserved
        | _ => unsupported .addressObserved)) (s' := fun g => if (g && decide (u.fst.block < p.globals.size)) = true then (do
        let m ← byteOf u'.fst
        let n ← byteOf v'.fst
        pure (m == n)) else (do
        let i ← typeInfo t
        match i.desc with
        | .named "sync.copyChecker" _ => if (u'.fst == v'.fst) = true then pure true else unsupported .addressObserved
        | _ => unsupported .addressObserved)) fun g => by
      split
      · exact yes
      · exact no
    rw [← e] at key
    exact key
  · have h1 : decide (u.fst.block < p.globals.size) = false := decide_eq_false (by omega)
    have h2 : decide (u'.fst.block < p.globals.size) = false := decide_eq_false (by omega)
    rw [h1, h2, Bool.and_false, Bool.and_false]
    simp only [Bool.false_eq_true, if_false]
    exact no
theorem sim_equalIn (hg : P.globals.size ≤ Z.glob) (d : Nat) : ∀ (t : TypeId), EqT P d t = true → ∀ {R : Rel} {x x' y y' : Value}, VR R x x' → VR R y y' → SimS P Z BR R (Op.equalIn d t x y) (Op.equalIn d t x' y') := by
  induction d with
  | zero => intro t _ R _ _ _ _ _ _; unfold Op.equalIn; exact sim_unsupported trivial
  | succ d ih =>
    intro t ht R x x' y y' hx hy
    rw [Op.equalIn, Op.equalIn]
    refine sim_same (sim_underlying t) fun R1 r1 k hk => ?_
    unfold EqT at ht
    rw [hk] at ht
    have hx := hx.mono r1
    have hy := hy.mono r1
    cases k with
    | bool =>
      cases hx <;> cases hy <;> first | exact sim_pure fun _ _ => ⟨rfl, trivial⟩ | exact sim_stuck
    | string =>
      cases hx <;> cases hy <;> first | exact sim_pure fun _ _ => ⟨rfl, trivial⟩ | exact sim_stuck
    | float k =>
      cases hx <;> cases hy <;> first | exact sim_stuck | (dsimp only; split <;> first | exact sim_pure fun _ _ => ⟨rfl, trivial⟩ | exact sim_stuck)
    | slice e =>
      cases hx <;> cases hy <;> first | exact sim_pure fun _ _ => ⟨rfl, trivial⟩ | exact sim_stuck
    | map k e =>
      cases hx <;> cases hy <;> first | exact sim_pure fun _ _ => ⟨rfl, trivial⟩ | exact sim_stuck
    | func a b c =>
      cases hx <;> cases hy <;> first | exact sim_pure fun _ _ => ⟨rfl, trivial⟩ | exact sim_stuck
    | int k =>
      cases hx with
      | int j n =>
        cases hy with
        | int j' n' =>
          dsimp only
          split <;> first | exact sim_pure fun _ _ => ⟨rfl, trivial⟩ | exact sim_stuck
        | ptr a =>
          by_cases hn : n = 0
          · subst hn; exact sim_pure fun _ _ => ⟨rfl, trivial⟩
          · cases n with
            | ofNat m =>
              cases m with
              | zero => exact absurd rfl hn
              | succ m => exact sim_unsupported trivial
            | negSucc m => exact sim_unsupported trivial
        | ptr0 => exact sim_unsupported trivial
        | _ => exact sim_stuck
      | ptr a =>
        cases hy with
        | int j' n =>
          by_cases hn : n = 0
          · subst hn; exact sim_pure fun _ _ => ⟨rfl, trivial⟩
          · cases n with
            | ofNat m =>
              cases m with
              | zero => exact absurd rfl hn
              | succ m => exact sim_unsupported trivial
            | negSucc m => exact sim_unsupported trivial
        | ptr b => exact sim_numAddr hg t a b
        | _ => exact sim_unsupported trivial
      | ptr0 => cases hy <;> exact sim_unsupported trivial
      | _ => cases hy <;> first | exact sim_unsupported trivial | exact sim_stuck
    | struct fs =>
      cases hx with
      | @agg c c' e h =>
        cases hy with
        | @agg c2 c2' e2 h2 =>
          refine sim_same sim_program fun R2 r2 p hp => ?_
          subst hp
          dsimp only
          split
          · exact sim_fallen trivial
          · refine sim_bind (sim_forInA fs (fun R4 r4 f hf s => ?_) _) fun R4 r4 a b e => ?_
            · split
              · rename_i hname
                refine sim_bind (sim_part _ (VsR.mono (r2.trans r4) ⟨e, h⟩) _) fun R5 r5 v v' hv => sim_bind (sim_part _ (VsR.mono ((r2.trans r4).trans r5) ⟨e2, h2⟩) _) fun R6 r6 u u' hu => ?_
                have hft : EqT p d f.type = true := by
                  have := List.all_eq_true.1 ht f hf
                  simp only [Bool.or_eq_true, beq_iff_eq] at this
                  exact this.resolve_left hname
                refine sim_bind (ih f.type hft (hv.mono r6) hu) fun R7 r7 g g' e => ?_
                obtain ⟨rfl, _⟩ := e
                split <;> exact sim_pure fun _ _ => ⟨rfl, trivial⟩
              · exact sim_pure fun _ _ => ⟨rfl, trivial⟩
            · obtain ⟨rfl, _⟩ := e
              split <;> exact sim_pure fun _ _ => ⟨rfl, trivial⟩
        | _ => exact sim_stuck
      | _ => cases hy <;> exact sim_stuck
    | array n e =>
      cases hx with
      | @agg c c' e1 h =>
        cases hy with
        | @agg c2 c2' e2 h2 =>
          refine sim_same (sim_sizeOf e) fun R2 r2 size _ => ?_
          refine sim_bind (sim_forInR n (fun R4 r4 f s => ?_) _) fun R4 r4 a b e => ?_
          · refine sim_bind (sim_part _ (VsR.mono (r2.trans r4) ⟨e1, h⟩) _) fun R5 r5 v v' hv => sim_bind (sim_part _ (VsR.mono ((r2.trans r4).trans r5) ⟨e2, h2⟩) _) fun R6 r6 u u' hu => ?_
            refine sim_bind (ih e ht (hv.mono r6) hu) fun R7 r7 g g' e => ?_
            obtain ⟨rfl, _⟩ := e
            split <;> exact sim_pure fun _ _ => ⟨rfl, trivial⟩
          · obtain ⟨rfl, _⟩ := e
            dsimp only
            split <;> exact sim_pure fun _ _ => ⟨rfl, trivial⟩
        | _ => exact sim_stuck
      | _ => cases hy <;> exact sim_stuck
    | _ => cases ht
end
end Ren
end Go.Proofs.YtdkpbobglogmoaaGreat
namespace Go.Proofs.YtdkpbobglogmoaaGreat
open Go
namespace Ren
section
variable {P : Program} {Z : Env} {R : Rel} {α β : Type} {A : Rel → α → β → Prop}
theorem sim_eqGuardIn (d : Nat) : ∀ (t : TypeId) {R : Rel} {x x' y y' : Value}, VR R x x' → VR R y y' → SimS P Z BR R (Op.eqGuardIn d t x y) (Op.eqGuardIn d t x' y') := by
  induction d with
  | zero => intro t R _ _ _ _ _ _; unfold Op.eqGuardIn; exact sim_unsupported trivial
  | succ d ih =>
    intro t R x x' y y' hx hy
    rw [Op.eqGuardIn, Op.eqGuardIn]
    refine sim_same (sim_underlying t) fun R1 r1 k hk => ?_
    have hx := hx.mono r1
    have hy := hy.mono r1
    have no : ∀ {R2 : Rel}, SimS P Z BR R2 (pure false) (pure false) := sim_pure fun _ _ => ⟨rfl, trivial⟩
    cases k with
    | interface ms =>
      cases hx with
      | nilIface =>
        cases hy with
        | nilIface => exact sim_pure fun _ _ => ⟨rfl, trivial⟩
        | junk h => cases y' <;> first | exact no | cases h
        | _ => exact no
      | junk h => cases x' <;> first | exact no | cases h
      | _ => exact no
    | struct fs =>
      cases hx with
      | @agg c c' e h =>
        cases hy with
        | @agg c2 c2' e2 h2 =>
          refine sim_bind (sim_forInA fs (fun R4 r4 f hf s => ?_) _) fun R4 r4 a b e => ?_
          · split
            · refine sim_bind (sim_part _ (VsR.mono r4 ⟨e, h⟩) _) fun R5 r5 v v' hv => sim_bind (sim_part _ (VsR.mono (r4.trans r5) ⟨e2, h2⟩) _) fun R6 r6 u u' hu => ?_
              refine sim_bind (ih f.type (hv.mono r6) hu) fun R7 r7 g g' e => ?_
              obtain ⟨rfl, _⟩ := e
              split <;> exact sim_pure fun _ _ => ⟨rfl, trivial⟩
            · exact sim_pure fun _ _ => ⟨rfl, trivial⟩
          · obtain ⟨rfl, _⟩ := e
            dsimp only
            split <;> exact sim_pure fun _ _ => ⟨rfl, trivial⟩
        | junk h => cases y' <;> first | exact no | cases h
        | _ => exact no
      | junk h => cases x' <;> first | exact no | cases h
      | _ => exact no
    | array n e =>
      cases hx with
      | @agg c c' e1 h =>
        cases hy with
        | @agg c2 c2' e2 h2 =>
          refine sim_same (sim_sizeOf e) fun R2 r2 size _ => ?_
          refine sim_bind (sim_forInR n (fun R4 r4 f s => ?_) _) fun R4 r4 a b e => ?_
          · refine sim_bind (sim_part _ (VsR.mono (r2.trans r4) ⟨e1, h⟩) _) fun R5 r5 v v' hv => sim_bind (sim_part _ (VsR.mono ((r2.trans r4).trans r5) ⟨e2, h2⟩) _) fun R6 r6 u u' hu => ?_
            refine sim_bind (ih e (hv.mono r6) hu) fun R7 r7 g g' e => ?_
            obtain ⟨rfl, _⟩ := e
            split <;> exact sim_pure fun _ _ => ⟨rfl, trivial⟩
          · obtain ⟨rfl, _⟩ := e
            dsimp only
            split <;> exact sim_pure fun _ _ => ⟨rfl, trivial⟩
        | junk h => cases y' <;> first | exact no | cases h
        | _ => exact no
      | junk h => cases x' <;> first | exact no | cases h
      | _ => exact no
    | _ => exact no
theorem sim_eqGuard (op : BinOp) (t : TypeId) (a b : Operand) {x x' y y' : Value} (hx : VR R x x') (hy : VR R y y') : SimS P Z UR R (eqGuard op t a b x y) (eqGuard op t a b x' y') := by
  have ok : ∀ {R2 : Rel}, SimS P Z UR R2 (pure ()) (pure ()) := sim_pure fun _ _ => trivial
  have main : ∀ g : Bool, SimS P Z UR R
      (match (generalizing := false) x, y with
        | .nilIface, .nilIface => if g = true then pure () else do
          if ← Op.eqGuardIn Op.maxDepth t x y then unsupported (.noEntry "binop/eql: two nil values of an interface type with methods, neither of them the literal nil")
        | .agg _, .agg _ => do
          if !(← program).eqGuardType (← program).depth t then return
          if ← Op.eqGuardIn Op.maxDepth t x y then unsupported (.noEntry "binop/eql: two nil values of an interface type with methods, in a part of a struct or an array")
        | _, _ => pure ())
      (match (generalizing := false) x', y' with
        | .nilIface, .nilIface => if g = true then pure () else do
          if ← Op.eqGuardIn Op.maxDepth t x' y' then unsupported (.noEntry "binop/eql: two nil values of an interface type with methods, neither of them the literal nil")
        | .agg _, .agg _ => do
          if !(← program).eqGuardType (← program).depth t then return
          if ← Op.eqGuardIn Op.maxDepth t x' y' then unsupported (.noEntry "binop/eql: two nil values of an interface type with methods, in a part of a struct or an array")
        | _, _ => pure ()) := by
    intro g
    cases hx with
    | nilIface =>
      cases hy with
      | nilIface =>
        dsimp only
        split
        · exact ok
        · refine sim_bind (sim_eqGuardIn _ t .nilIface .nilIface) fun R1 r1 g g' e => ?_
          obtain ⟨rfl, _⟩ := e
          split
          · exact sim_unsupported trivial
          · exact ok
      | junk h => cases y' <;> first | exact ok | cases h
      | _ => exact ok
    | agg e h =>
      cases hy with
      | agg e2 h2 =>
        refine sim_same sim_program fun R1 r1 p hp => sim_same sim_program fun R2 r2 p2 hp2 => ?_
        split
        · exact ok
        · refine sim_bind (sim_eqGuardIn _ t (VR.mono (r1.trans r2) (.agg e h)) (VR.mono (r1.trans r2) (.agg e2 h2))) fun R3 r3 g g' e => ?_
          obtain ⟨rfl, _⟩ := e
          split
          · exact sim_unsupported trivial
          · exact ok
      | junk h => cases y' <;> first | exact ok | cases h
      | _ => exact ok
    | junk h => cases x' <;> first | exact ok | cases h
    | _ => exact ok
  unfold eqGuard
  cases op <;> first | exact ok | exact main _
def EqOk (P : Program) (t : TypeId) (x y : Value) : Prop := EqT P Op.maxDepth t = true ∨ ((∃ ms, P.underlying t = some (.interface ms)) ∧ (x = .nilIface ∨ y = .nilIface)) ∨ ((∃ e, P.underlying t = some (.pointer e)) ∧ (x = .pointer none ∨ y = .pointer none))
theorem sim_equal (hg : P.globals.size ≤ Z.glob) {t : TypeId} {x x' y y' : Value} (he : EqOk P t x y) (hx : VR R x x') (hy : VR R y y') : SimS P Z BR R (Op.equal t x y) (Op.equal t x' y') := by
  rcases he with he | ⟨⟨ms, hm⟩, hn⟩ | ⟨⟨e, hm⟩, hn⟩
  · exact sim_equalIn hg _ t he hx hy
  · unfold Op.equal Op.maxDepth
    rw [Op.equalIn, Op.equalIn]
    refine sim_same (sim_underlying t) fun R1 r1 k hk => ?_
    rw [hm] at hk
    cases hk
    rcases hn with rfl | rfl
    · cases hx
      cases hy <;> first | exact sim_pure fun _ _ => ⟨rfl, trivial⟩ | exact sim_stuck
    · cases hy
      cases hx <;> first | exact sim_pure fun _ _ => ⟨rfl, trivial⟩ | exact sim_stuck
  · unfold Op.equal Op.maxDepth
    rw [Op.equalIn, Op.equalIn]
    refine sim_same (sim_underlying t) fun R1 r1 k hk => ?_
    rw [hm] at hk
    cases hk
    rcases hn with rfl | rfl
    · cases hx
      cases hy <;> first | exact sim_pure fun _ _ => ⟨rfl, trivial⟩ | exact sim_stuck
    · cases hy
      cases hx <;> first | exact sim_pure fun _ _ => ⟨rfl, trivial⟩ | exact sim_stuck
end
end Ren
end Go.Proofs.YtdkpbobglogmoaaGreat
namespace Go.Proofs.YtdkpbobglogmoaaGreat
open Go
namespace Ren
section
variable {P : Program} {Z : Env} {R : Rel} {α β : Type} {A : Rel → α → β → Prop}
def NoNum : Value → Prop
  | .int .. | .float .. | .complex .. | .string _ | .pointer _ => False
  | _ => True
theorem binOp_none {op : BinOp} {t : TypeId} {x y : Value} (h1 : op ≠ .eql) (h2 : op ≠ .neq) (hx : NoNum x) : ∃ h, Dull h ∧ binOp op t x y = Sem.halt h := by
  unfold binOp
  split
  all_goals first
    | (refine ⟨_, ?_, rfl⟩; exact trivial)
    | exact absurd rfl h1
    | exact absurd rfl h2
    | exact False.elim hx
    | (simp [NoNum] at hx; done)
theorem SimS.halts {s : Sem α} {s' : Sem β} (h : ∃ h, Dull h ∧ s = Sem.halt h) : SimS P Z A R s s' := by
  obtain ⟨h, hd, rfl⟩ := h
  exact SimS.dead hd
theorem SimS.lost {s : Sem α} {s' : Sem β} (h : ∀ w es, ∃ hh w1 es1, s.runT P w es = (.halt hh w1, es1) ∧ Dull hh) : SimS P Z A R s s' := by
  intro R0 h0 w w' es es' hw he
  refine ⟨?_, .dull fun τ d => h (w.re τ d) es⟩
  obtain ⟨hh, w1, es1, e, hd⟩ := h w es
  rw [e]
  exact Met.dead hd
theorem equal_junk (t : TypeId) (c : Array Value) (y : Value) (w : World) (es : Array Event) : ∃ hh w1 es1, (Op.equal t (.tuple c) y).runT P w es = (.halt hh w1, es1) ∧ Dull hh := by
  unfold Op.equal Op.maxDepth
  rw [Op.equalIn]
  have e0 : ∀ {γ : Type} (k : TypeDesc → Sem γ), (underlying t >>= k).runT P w es = match P.underlying t with | some d => (k d).runT P w es | none => (.halt (.stuck "no such type") w, es) := fun k => by
    have hu : (underlying t).runT P w es = match P.underlying t with | some d => (.ok d w, es) | none => (.halt (.stuck "no such type") w, es) := by
      show (match P.underlying t with | some d => (pure d : Sem TypeDesc) | none => (stuck "no such type" : Sem TypeDesc)).runT P w es = _
      cases P.underlying t <;> rfl
    refine (Sem.runT_bind' P (underlying t) k w es).trans ?_
    rw [hu]
    cases P.underlying t <;> rfl
  rw [e0]
  cases P.underlying t with
  | none => exact ⟨_, _, _, rfl, trivial⟩
  | some d => cases d <;> cases y <;> first | exact ⟨_, _, _, rfl, trivial⟩ | (rename_i a; cases a <;> exact ⟨_, _, _, rfl, trivial⟩)
theorem equal_lost (t : TypeId) (c : Array Value) (y : Value) (k : Bool → Sem Value) (w : World) (es : Array Event) : ∃ hh w1 es1, ((Op.equal t (.tuple c) y).bind k).runT P w es = (.halt hh w1, es1) ∧ Dull hh := by
  obtain ⟨hh, w1, es1, e, hd⟩ := equal_junk (P := P) t c y w es
  exact ⟨hh, w1, es1, (Sem.runT_bind' P _ k w es).trans (by rw [e]), hd⟩
theorem sim_binOp (hg : P.globals.size ≤ Z.glob) {op : BinOp} {t : TypeId} {x x' y y' : Value} (he : op = .eql ∨ op = .neq → EqOk P t x y) (hx : VR R x x') (hy : VR R y y') : SimS P Z VR R (binOp op t x y) (binOp op t x' y') := by
  by_cases h1 : op = .eql
  · subst h1
    have gen : SimS P Z VR R (do pure (.bool (← Op.equal t x y))) (do pure (.bool (← Op.equal t x' y'))) :=
      sim_bind (sim_equal hg (he (.inl rfl)) hx hy) fun R1 r1 a b e => by obtain ⟨rfl, _⟩ := e; exact sim_pure fun _ _ => .bool _
    cases hx with
    | int k a =>
      cases hy with
      | int k' b =>
        unfold binOp
        dsimp only
        split
        · exact sim_stuck
        · exact sim_intCmp _ _ _
      | junk h => cases y' <;> first | exact gen | cases h
      | _ => exact gen
    | float k a =>
      cases hy with
      | float k' b =>
        unfold binOp
        dsimp only
        split
        · exact sim_stuck
        · exact sim_floatCmp _ _ _ _
      | junk h => cases y' <;> first | exact gen | cases h
      | _ => exact gen
    | string s =>
      cases hy with
      | string s' => unfold binOp; exact sim_stringOp _ _ _
      | junk h => cases y' <;> first | exact gen | cases h
      | _ => exact gen
    | junk h => exact SimS.lost fun w es => equal_lost t #[] y _ w es
    | _ => exact gen
  by_cases h2 : op = .neq
  · subst h2
    have gen : SimS P Z VR R (do pure (.bool (!(← Op.equal t x y)))) (do pure (.bool (!(← Op.equal t x' y')))) :=
      sim_bind (sim_equal hg (he (.inr rfl)) hx hy) fun R1 r1 a b e => by obtain ⟨rfl, _⟩ := e; exact sim_pure fun _ _ => .bool _
    cases hx with
    | int k a =>
      cases hy with
      | int k' b =>
        unfold binOp
        dsimp only
        split
        · exact sim_stuck
        · exact sim_intCmp _ _ _
      | junk h => cases y' <;> first | exact gen | cases h
      | _ => exact gen
    | float k a =>
      cases hy with
      | float k' b =>
        unfold binOp
        dsimp only
        split
        · exact sim_stuck
        · exact sim_floatCmp _ _ _ _
      | junk h => cases y' <;> first | exact gen | cases h
      | _ => exact gen
    | string s =>
      cases hy with
      | string s' => unfold binOp; exact sim_stringOp _ _ _
      | junk h => cases y' <;> first | exact gen | cases h
      | _ => exact gen
    | junk h => exact SimS.lost fun w es => equal_lost t #[] y _ w es
    | _ => exact gen
  have mod : ∀ {R1 : Rel} {a a' : Addr} (k : IntKind) (n : Int), AR R1 a a' → SimS P Z VR R1 (do Op.addrMod k (← behindNumber a).1 n) (do Op.addrMod k (← behindNumber a').1 n) := fun k n h =>
    sim_bind (sim_behindNumber h) fun R2 r2 u u' hu => sim_addrMod k hu.1 n
  cases hx with
  | int k a =>
    cases hy with
    | int k' b =>
      cases op <;> first
        | (unfold binOp; exact sim_shift _ _ _ _ _)
        | exact absurd rfl h1
        | exact absurd rfl h2
        | (unfold binOp; dsimp only; split
           · exact sim_stuck
           · first | exact sim_intArith _ _ _ _ | exact sim_intDiv _ _ _ _ | exact sim_intBits _ _ _ _ | exact sim_intCmp _ _ _)
    | ptr h =>
      cases op <;> first
        | exact absurd rfl h1
        | exact absurd rfl h2
        | exact sim_movedNumber t (.ptr h) (.int _ _)
        | exact mod _ _ h
        | exact sim_unsupported trivial
    | ptr0 =>
      cases op <;> first
        | exact absurd rfl h1
        | exact absurd rfl h2
        | exact sim_movedNumber t .ptr0 (.int _ _)
        | exact sim_unsupported trivial
    | _ =>
      cases op <;> first
        | exact absurd rfl h1
        | exact absurd rfl h2
        | exact sim_stuck
  | ptr h =>
    cases hy with
    | int k n =>
      cases op <;> first
        | exact absurd rfl h1
        | exact absurd rfl h2
        | exact sim_movedNumber t (.ptr h) (.int _ _)
        | exact mod _ _ h
        | exact sim_unsupported trivial
        | (refine sim_same (sim_underlying t) fun R1 r1 d hd => ?_
           split
           · rw [if_pos rfl, if_pos rfl]; exact sim_movedPointer t (.ptr (h.mono r1)) (.int _ _)
           · rw [if_neg (by simp), if_neg (by simp)]; exact sim_movedNumber t (.ptr (h.mono r1)) (.int _ _))
    | ptr h' =>
      cases op <;> first
        | exact absurd rfl h1
        | exact absurd rfl h2
        | exact sim_unsupported trivial
        | exact sim_bind (sim_behindNumber h) fun R1 r1 u u' hu => sim_bind (sim_behindNumber (h'.mono r1)) fun R2 r2 v v' hv => sim_addrSub hg _ (hu.1.mono r2) hv.1
        | exact sim_bind (sim_behindNumber h) fun R1 r1 u u' hu => sim_bind (sim_behindNumber (h'.mono r1)) fun R2 r2 v v' hv => sim_addrCmp hg _ (hu.1.mono r2) hv.1
    | _ =>
      cases op <;> first
        | exact absurd rfl h1
        | exact absurd rfl h2
        | exact sim_unsupported trivial
  | ptr0 =>
    cases hy with
    | int k n =>
      cases op <;> first
        | exact absurd rfl h1
        | exact absurd rfl h2
        | exact sim_movedNumber t .ptr0 (.int _ _)
        | exact sim_unsupported trivial
        | (refine sim_same (sim_underlying t) fun R1 r1 d hd => ?_
           split
           · rw [if_pos rfl]; exact sim_movedPointer t .ptr0 (.int _ _)
           · rw [if_neg (by simp)]; exact sim_movedNumber t .ptr0 (.int _ _))
    | _ =>
      cases op <;> first
        | exact absurd rfl h1
        | exact absurd rfl h2
        | exact sim_unsupported trivial
  | float k a =>
    cases hy with
    | float k' b =>
      cases op <;> first
        | exact absurd rfl h1
        | exact absurd rfl h2
        | (unfold binOp; dsimp only; split
           · exact sim_stuck
           · first | exact sim_floatArith _ _ _ _ | exact sim_floatCmp _ _ _ _)
    | _ =>
      cases op <;> first
        | exact absurd rfl h1
        | exact absurd rfl h2
        | exact sim_unsupported trivial
        | exact sim_stuck
  | string s =>
    cases hy with
    | string s' =>
      cases op <;> first
        | exact absurd rfl h1
        | exact absurd rfl h2
        | (unfold binOp; exact sim_stringOp _ _ _)
    | _ =>
      cases op <;> first
        | exact absurd rfl h1
        | exact absurd rfl h2
        | exact sim_unsupported trivial
        | exact sim_stuck
  | _ => exact SimS.halts (binOp_none h1 h2 trivial)
theorem sim_unary (op : UnOp) {x x' : Value} (hx : VR R x x') : SimS P Z VR R (Op.unary op x) (Op.unary op x') := by
  cases hx with
  | int k n =>
    cases op <;> first
      | (unfold Op.unary; exact sim_intArith _ _ _ _)
      | (unfold Op.unary; exact sim_intBits _ _ _ _)
      | exact sim_stuck
  | float k n =>
    cases op <;> first
      | exact sim_pure fun _ _ => .float _ _
      | exact sim_stuck
  | bool b =>
    cases op <;> first
      | exact sim_pure fun _ _ => .bool _
      | exact sim_stuck
  | ptr a => cases op <;> first | exact sim_unsupported trivial | exact sim_stuck
  | _ => cases op <;> exact sim_stuck
theorem sim_eachByte : ∀ {l m : List Value} {R : Rel} (s : ByteArray), VLs R l m → ∀ {f : Value → ByteArray → Sem (ForInStep ByteArray)}, (∀ n s, f (.int .u8 n) s = pure (.yield (s.push (UInt8.ofNat n.toNat)))) → (∀ v s, (∀ n, v ≠ .int .u8 n) → ∃ h, Dull h ∧ f v s = Sem.halt h) →
    SimS P Z (fun _ a b => a = b ∧ True) R (forIn l s f) (forIn m s f)
  | _, _, R, s, .nil, f, h1, h2 => by simp only [List.forIn_nil]; exact sim_pure fun _ _ => ⟨rfl, trivial⟩
  | _, _, R, s, .cons (v := v) (w := w) (l := l) (m := m) hv hl, f, h1, h2 => by
    simp only [List.forIn_cons]
    by_cases hn : ∃ n, v = .int .u8 n
    · obtain ⟨n, rfl⟩ := hn
      cases hv
      rw [h1]
      exact sim_eachByte _ hl h1 h2
    · obtain ⟨h, hd, e⟩ := h2 v s (fun n e => hn ⟨n, e⟩)
      rw [e]
      exact sim_fallen hd
theorem sim_bytesToString {x x' : Value} (hx : VR R x x') : SimS P Z VR R (Conv.bytesToString x) (Conv.bytesToString x') := by
  cases hx with
  | slice0 l c => exact sim_pure fun _ _ => .string _
  | slice l c a =>
    refine sim_bind (sim_loadCells a l) fun R1 r1 cs ds hcd => ?_
    rw [← Array.forIn_toList, ← Array.forIn_toList]
    refine sim_bind (sim_eachByte _ hcd.list (fun n s => rfl) (fun v s hv => ?_)) fun R2 r2 a b e => ?_
    · cases v with
      | int k n =>
        cases k <;> first | exact absurd rfl (hv n) | exact ⟨.stuck _, trivial, rfl⟩
      | _ => exact ⟨.stuck _, trivial, rfl⟩
    · obtain ⟨rfl, _⟩ := e
      exact sim_pure fun _ _ => .string _
  | _ => exact sim_stuck
def CvOk (P : Program) (src dst : TypeId) : Prop := ∃ a b, P.underlying src = some a ∧ P.underlying dst = some b ∧
  ((∃ k, b = .int k) ∧ (∃ k, a = .int k) ∨ ((∃ e, a = .slice e ∧ P.underlying e = some (.int .u8)) ∧ b = .string) ∨ (a = .string ∧ b = .string))
theorem sim_convert {src dst : TypeId} (hc : CvOk P src dst) {x x' : Value} (hx : VR R x x') : SimS P Z VR R (convert src dst x) (convert src dst x') := by
  obtain ⟨a, b, ha, hb, h⟩ := hc
  unfold convert
  refine sim_same (sim_underlying src) fun R1 r1 d hd => sim_same (sim_underlying dst) fun R2 r2 d2 hd2 => ?_
  rw [ha] at hd
  rw [hb] at hd2
  cases hd
  cases hd2
  have hx := (hx.mono r1).mono r2
  rcases h with ⟨⟨k, rfl⟩, ⟨j, rfl⟩⟩ | ⟨⟨e, rfl, he⟩, rfl⟩ | ⟨rfl, rfl⟩
  · cases hx with
    | int k' n => exact sim_pure fun _ _ => .int _ _
    | float k' n =>
      have any : ∀ {R3 : Rel}, SimS P Z VR R3 (do pure (.int k (k.wrap (← choose (.floatToInt k' n k))))) (do pure (.int k (k.wrap (← choose (.floatToInt k' n k))))) := sim_same (sim_choose _) fun _ _ _ _ => sim_pure fun _ _ => .int _ _
      show SimS P Z VR R2 (Conv.floatToInt k' n k) (Conv.floatToInt k' n k)
      unfold Conv.floatToInt
      dsimp only
      split
      · split
        · exact sim_pure fun _ _ => .int _ _
        · exact any
      · exact any
    | ptr a => exact sim_unsupported trivial
    | _ => exact sim_unsupported trivial
  · cases hx with
    | int k n => exact sim_pure fun _ _ => .string _
    | string s => exact sim_pure fun _ _ => .string _
    | slice0 l c =>
      refine sim_same (sim_underlying e) fun R3 r3 d3 hd3 => ?_
      rw [he] at hd3
      cases hd3
      exact sim_bytesToString (.slice0 l c)
    | slice l c a =>
      refine sim_same (sim_underlying e) fun R3 r3 d3 hd3 => ?_
      rw [he] at hd3
      cases hd3
      exact sim_bytesToString (.slice l c (a.mono r3))
    | junk h =>
      refine SimS.lost fun w es => ?_
      have e1 : (underlying e).runT P w es = (.ok (.int .u8) w, es) := by
        show (match P.underlying e with | some d => (pure d : Sem TypeDesc) | none => _).runT P w es = _
        rw [he]
        rfl
      refine ⟨_, _, _, (Sem.runT_bind' P (underlying e) _ w es).trans (by rw [e1]; rfl), ?_⟩
      exact trivial
    | _ =>
      refine sim_same (sim_underlying e) fun R3 r3 d3 hd3 => ?_
      rw [he] at hd3
      cases hd3
      exact sim_stuck
  · cases hx with
    | int k n => exact sim_pure fun _ _ => .string _
    | string s => exact sim_pure fun _ _ => .string _
    | _ => exact sim_unsupported trivial
theorem sim_makeInterface (t : TypeId) {x x' : Value} (hx : VR R x x') : SimS P Z VR R (Instr.makeInterface t x) (Instr.makeInterface t x') := by
  unfold Instr.makeInterface
  refine sim_same (sim_underlying t) fun R1 r1 d hd => ?_
  split
  · exact sim_stuck
  · exact sim_pure fun R2 r2 => .iface _ ((hx.mono r1).mono r2)
theorem sim_makeFunc {fn : Fn} (hf : Still fn) {f f' c c' : Array Value} (h1 : VsR R f f') (h2 : VsR R c c') : SimS P Z VR R (Instr.makeFunc fn f c) (Instr.makeFunc fn f' c') :=
  sim_pure fun R1 r1 => .func fn hf h1.1 (h1.mono r1).2 h2.1 (h2.mono r1).2
theorem sim_makeMap (t : TypeId) : SimS P Z VR R (Instr.makeMap t none) (Instr.makeMap t none) := by
  refine sim_bind (sim_newObj (.map 0 rfl fun i x y e => by simp at e)) fun R1 r1 a b h => sim_pure fun R2 r2 => .map (r2 _ _ h)
theorem sim_extract {x x' : Value} (hx : VR R x x') (i : Nat) : SimS P Z VR R (Instr.extract x i) (Instr.extract x' i) := by
  cases hx with
  | @tuple c d e h =>
    unfold Instr.extract
    dsimp only
    cases hc : c[i]? with
    | none => exact sim_stuck
    | some v =>
      obtain ⟨u, e2, hu⟩ := VsR.at_ ⟨e, h⟩ hc
      rw [e2]
      exact sim_pure fun R1 r1 => hu.mono r1
  | _ => exact sim_stuck
theorem sim_field (t : TypeId) {x x' : Value} (hx : VR R x x') (i : Nat) : SimS P Z VR R (Instr.field t x i) (Instr.field t x' i) := by
  unfold Instr.field
  refine sim_same (sim_underlying t) fun R1 r1 d hd => ?_
  split
  · split
    · exact sim_bind (sim_asAgg (hx.mono r1)) fun R2 r2 c d h => sim_part _ h _
    · exact sim_stuck
  · exact sim_stuck
end
end Ren
end Go.Proofs.YtdkpbobglogmoaaGreat
