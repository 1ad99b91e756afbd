/- Parts of the proof of TopCommandsProof: PoolKeys PoolMa. -/
import Derived.Great.BuildSlice
import Derived.Conc.AppendEvents3
import Derived.Conc.AppendWalk
import Derived.Conc.CrowdComm
import Derived.Test.YtdkpbobglogmoaaGreatTk8
import Derived.Test.YtdkpbobglogmoaaGreatTk9
set_option linter.unusedVariables false
set_option linter.unusedSimpArgs false
set_option maxRecDepth 100000
set_option maxHeartbeats 32000000
namespace Go.Proofs.YtdkpbobglogmoaaGreat
open Go Go.Conc Go.RowKit Go.Conc.Lib Go.ConcX.Gen
namespace Pool
theorem nm28 : (Tryz.f28.name == "runtime.NumGoroutine") = false := by kernel_rfl
theorem nm27 : (Tryz.f27.name == "runtime.NumGoroutine") = false := by kernel_rfl
theorem nm45 : (Tryz.f45.name == "runtime.NumGoroutine") = false := by kernel_rfl
theorem nm73 : (Tryz.f73.name == "runtime.NumGoroutine") = false := by kernel_rfl
theorem nm47 : (Tryz.f47.name == "runtime.NumGoroutine") = false := by kernel_rfl
structure Lets (E : Event → Prop) (Ok : Nat → Prop) : Prop where
  obj : ∀ b x, Ok b → E ⟨.obj b, x, false⟩
  cell : ∀ (a : Addr) x y, Ok a.block → E ⟨.cell a, x, y⟩
  room : E ⟨.mark .noRoom, false, true⟩
theorem obj2_ok {E : Event → Prop} {Ok : Nat → Prop} (h : Lets E Ok) {P : Program} {f : FuncId} {l : Nat} (hl : Ok l) : ∀ e ∈ seen P f (obj2 l), E e := by
  intro e he
  have := mem_seen he
  simp [obj2] at this
  rcases this with rfl | rfl <;> exact h.obj _ _ hl
@[go_sem] theorem run_mf2 (P : Program) (fn : Fn) (first cap : Array Value) (w : World) : (Instr.makeFunc fn first cap).run P w = .ok (.func fn first cap) w := rfl
@[go_sem] theorem events_mf2 (P : Program) (fn : Fn) (first cap : Array Value) (w : World) (es : Array Event) : (Instr.makeFunc fn first cap).events P w es = es := rfl
theorem alloc_base (W : World) (d e : Nat) (o : Obj) : ((W.at d).at e).alloc o = (after W [o]).at e := by
  have := after_alloc (W := W) (l := []) o
  rw [after_nil] at this
  exact congrArg (fun w : World => w.at e) this
theorem alloc_after (W : World) (l : List Obj) (d : Nat) (o : Obj) : ((after W l).at d).alloc o = (after W (l ++ [o])).at d := congrArg (fun w : World => w.at d) (after_alloc (W := W) (l := l) o)
theorem put_after (W : World) (l : List Obj) (d j : Nat) (o : Obj) (hj : j < l.length) : ((after W l).at d).putObj (W.heap.size + j) o = (after W (l.set j o)).at d := congrArg (fun w : World => w.at d) (after_put (W := W) (l := l) hj)
theorem heap_after (W : World) (l : List Obj) (d j : Nat) : ((after W l).at d).heap[W.heap.size + j]? = l[j]? := after_new
theorem size_after (W : World) (l : List Obj) (d : Nat) : ((after W l).at d).heap.size = W.heap.size + l.length := after_size
section
variable {P : Program} {E : Event → Prop} {Ok : Nat → Prop} {Stop : Goroutine → World → Prop} {b : Frame} {a : Act} {ops : Array Oper} {i : Nat} {rest : List Nat} {k : List Item} {cs : List Frame} {n : Nat} {W : World} {L : List Obj} {d₀ : Nat} {o : Oper}
theorem goes_rangeFunc {f : Operand} {ps : Array Tmp} {asg bo : Code} {fid : FuncId} {cap : Array Value} {fn : Func} {c : Code} (hr : b.roundOf = none) (hf : a.eval f = .func (.func fid) #[] cap) (hfn : P.funcs[fid]? = some fn) (hname : (fn.name == "runtime.NumGoroutine") = false) (hb : fn.body = some c)
    (k' : ∀ d, Goes P true AtRel (DE E) Stop n (G ((base fid).at ⟨((#[Value.func (.yield (W.heap.size + L.length + 1)) #[] #[]] : Array Value) ++ cap) ++ Array.replicate (fn.ntmps - (1 + cap.size)) undef, []⟩ [.code c])
      (b.at ⟨a.tmps, { target := .collected (W.heap.size + L.length), args := #[] } :: a.defers⟩ (.inRangeFunc (W.heap.size + L.length + 1) :: k) :: cs))
      ((after W (L ++ [.deferred (some []), .loop { state := .ready, pending := none, fn := b.fn, tmps := a.tmps, params := ps, assign := asg, body := bo, defers := W.heap.size + L.length }])).at d)) :
    Goes P true AtRel (DE E) Stop (n + 1) (G (b.at a (.code (.rangeFunc f ps asg bo) :: k)) cs) ((after W L).at d₀) := by
  refine goes_known (W' := after W (L ++ [.deferred (some []), .loop { state := .ready, pending := none, fn := b.fn, tmps := a.tmps, params := ps, assign := asg, body := bo, defers := W.heap.size + L.length }])) (es := #[]) rfl (fun d => ?_) (fun e he => ?_) k'
  · refine (step_rangeFunc hr hf hfn hname hb).trans ?_
    simp only [at_at, size_after, alloc_after, List.append_assoc, List.cons_append, List.nil_append]
    rw [enter_at _ hfn hb]
    simp
  · simp at he
theorem goes_yield {r : Loop} {j : Nat} {f : Operand} {args : Array Operand} {ats : Array TypeId} (hE : Lets E Ok) (hj : Ok (W.heap.size + j)) (ho : ops[i]? = some o) (hw : Region.wanted o (yielded ops a.tmps) = true) (hk : b.kind ≠ .early)
    (hop : o.op = .call { callee := .value f, args, argTypes := ats }) (hf : a.eval f = .func (.yield (W.heap.size + j)) #[] #[]) (h : L[j]? = some (.loop r)) (hs : args.size = r.params.size)
    (k' : ∀ d, Goes P true AtRel (DE E) Stop n (G (Rd (base r.fn) (W.heap.size + j) ⟨(r.params.zip (args.map a.eval)).foldl (fun tmps (t, a) => tmps.setIfInBounds t a) r.tmps, []⟩ [.code r.assign, .beginRound, .code r.body]) (b.at a (.inRegion ops (i :: rest) :: k) :: cs)) ((after W L).at d)) :
    Goes P true AtRel (DE E) Stop (n + 1) (G (b.at a (.inRegion ops (i :: rest) :: k)) cs) ((after W L).at d₀) := by
  refine goes_known (W' := after W L) (es := seen P b.fn #[⟨.obj (W.heap.size + j), false, false⟩]) rfl (fun d => ?_) (fun e he => ?_) k'
  · exact step_yield ho hw hk hop hf ((heap_after W L d j).trans h) hs
  · have := mem_seen he
    simp at this
    subst this
    exact hE.obj _ _ hj
theorem goes_begin {r : Loop} {j : Nat} (hE : Lets E Ok) (hj : Ok (W.heap.size + j)) (hk : b.kind ≠ .early) (h : L[j]? = some (.loop r)) (hr : r.state = .ready)
    (k' : ∀ d, Goes P true AtRel (DE E) Stop n (G (Rd b (W.heap.size + j) a k) cs) ((after W (L.set j (.loop { r with state := .busy }))).at d)) :
    Goes P true AtRel (DE E) Stop (n + 1) (G (Rd b (W.heap.size + j) a (.beginRound :: k)) cs) ((after W L).at d₀) := by
  refine goes_known (W' := after W (L.set j (.loop { r with state := .busy }))) (es := seen P b.fn (obj2 (W.heap.size + j))) rfl (fun d => ?_) (obj2_ok hE hj) k'
  exact (rd_begin hk ((heap_after W L d j).trans h) hr).trans (by rw [← put_after W L _ j _ (List.getElem?_eq_some_iff.1 h).1])
theorem goes_rdend {r : Loop} {j : Nat} {b₀ : Frame} {a₀ : Act} (hE : Lets E Ok) (hj : Ok (W.heap.size + j)) (hn : b.kind = .normal) (hd : a.defers = []) (h : L[j]? = some (.loop r))
    (k' : ∀ d, Goes P true AtRel (DE E) Stop n (G (b₀.at (a₀.put ((ops[i]?).bind (·.dst)) (.bool true)) (.inRegion ops rest :: k)) cs) ((after W (L.set j (.loop { r with state := .ready, pending := none }))).at d)) :
    Goes P true AtRel (DE E) Stop (n + 1) (G (Rd b (W.heap.size + j) a []) (b₀.at a₀ (.inRegion ops (i :: rest) :: k) :: cs)) ((after W L).at d₀) := by
  refine goes_known (W' := after W (L.set j (.loop { r with state := .ready, pending := none }))) (es := seen P b.fn (obj2 (W.heap.size + j))) rfl (fun d => ?_) (obj2_ok hE hj) k'
  refine (rd_end hn hd ((heap_after W L d j).trans h)).trans ?_
  rw [← put_after W L _ j _ (List.getElem?_eq_some_iff.1 h).1, Frame.finish_at]
theorem goes_endRange {r : Loop} {j : Nat} (hE : Lets E Ok) (hj : Ok (W.heap.size + j)) (h : L[j]? = some (.loop r)) (hb : r.state ≠ .busy) (hp : r.pending = none)
    (k' : ∀ d, Goes P true AtRel (DE E) Stop n (G (b.at a k) cs) ((after W (L.set j (.loop { r with state := .exhausted }))).at d)) :
    Goes P true AtRel (DE E) Stop (n + 1) (G (b.at a (.endRangeFunc (W.heap.size + j) :: k)) cs) ((after W L).at d₀) := by
  refine goes_known (W' := after W (L.set j (.loop { r with state := .exhausted }))) (es := seen P b.fn (obj2 (W.heap.size + j))) rfl (fun d => ?_) (obj2_ok hE hj) k'
  exact (step_endRange ((heap_after W L d j).trans h) hb hp).trans (by rw [← put_after W L _ j _ (List.getElem?_eq_some_iff.1 h).1])
theorem goes_collect {j : Nat} {T : Array Value} {ds : List Deferred} {todo : List Item} (hE : Lets E Ok) (hj : Ok (W.heap.size + j)) (h : L[j]? = some (.deferred (some [])))
    (k' : ∀ d, Goes P true AtRel (DE E) Stop n (G { b.at ⟨T, ds⟩ todo with mode := .returning } cs) ((after W (L.set j (.deferred none))).at d)) :
    Goes P true AtRel (DE E) Stop (n + 1) (G { b.at ⟨T, { target := .collected (W.heap.size + j), args := #[] } :: ds⟩ todo with mode := .returning } cs) ((after W L).at d₀) := by
  refine goes_known (W' := after W (L.set j (.deferred none))) (es := seen P b.fn (obj2 (W.heap.size + j))) rfl (fun d => ?_) (obj2_ok hE hj) k'
  exact (step_collect ((heap_after W L d j).trans h)).trans (by rw [← put_after W L _ j _ (List.getElem?_eq_some_iff.1 h).1])
theorem goes_backRange {b₀ : Frame} {a₀ : Act} {fn : Func} {todo : List Item} {l : Nat} {w : World} (hn : b.kind = .normal) (hd : a.defers = []) (hf : P.funcs[b.fn]? = some fn) (hr : fn.results = #[])
    (k' : ∀ d, Goes P true AtRel (DE E) Stop n (G (b₀.at a₀ (.endRangeFunc l :: k)) cs) (w.at d)) :
    Goes P true AtRel (DE E) Stop (n + 1) (G { b.at a todo with mode := .returning } (b₀.at a₀ (.inRangeFunc l :: k) :: cs)) w :=
  goes_known (W' := w) (es := #[]) rfl (fun d => step_backRange hn hd hf hr) (fun e he => by simp at he) k'
theorem goes_opx {w : World} (ho : ops[i]? = some o) (hw : Region.wanted o (yielded ops a.tmps) = true) (hk : b.kind ≠ .early)
    (h : ∀ d, ∃ v w', (execOp a.eval o).run P (w.at d) = .ok (.value v) w' ∧ (∀ e ∈ (execOp a.eval o).events P (w.at d) #[], E e) ∧ Goes P true AtRel (DE E) Stop n (G (b.at (a.put o.dst v) (.inRegion ops rest :: k)) cs) w') :
    Goes P true AtRel (DE E) Stop (n + 1) (G (b.at a (.inRegion ops (i :: rest) :: k)) cs) w := by
  refine Goes.step rfl fun w1 h1 => ?_
  obtain ⟨d, rfl⟩ := h1
  obtain ⟨v, w', hr, he, k'⟩ := h d
  rw [stepG_value ho hw hk hr]
  simp only [goes_go]
  exact ⟨fun e hx => he e (mem_listed hx), k'⟩
theorem goes_opr {v : Value} (ho : ops[i]? = some o) (hw : Region.wanted o (yielded ops a.tmps) = true) (hk : b.kind ≠ .early) (hr : ∀ d, (execOp a.eval o).run P ((after W L).at d) = .ok (.value v) ((after W L).at d))
    (he : ∀ d, ∀ e ∈ (execOp a.eval o).events P ((after W L).at d) #[], E e) (k' : ∀ d, Goes P true AtRel (DE E) Stop n (G (b.at (a.put o.dst v) (.inRegion ops rest :: k)) cs) ((after W L).at d)) : Goes P true AtRel (DE E) Stop (n + 1) (G (b.at a (.inRegion ops (i :: rest) :: k)) cs) ((after W L).at d₀) :=
  goes_opv (W := (after W L).at d₀) (W' := after W L) ho hw hk hr he k'
theorem goes_opn' {ob : Obj} {v : Value} (ho : ops[i]? = some o) (hw : Region.wanted o (yielded ops a.tmps) = true) (hk : b.kind ≠ .early) (hr : ∀ d, (execOp a.eval o).run P ((after W L).at d) = .ok (.value v) (((after W L).at d).alloc ob))
    (he : ∀ d, ∀ e ∈ (execOp a.eval o).events P ((after W L).at d) #[], E e) (k' : ∀ d, Goes P true AtRel (DE E) Stop n (G (b.at (a.put o.dst v) (.inRegion ops rest :: k)) cs) ((after W (L ++ [ob])).at d)) : Goes P true AtRel (DE E) Stop (n + 1) (G (b.at a (.inRegion ops (i :: rest) :: k)) cs) ((after W L).at d₀) :=
  goes_opv (W := (after W L).at d₀) (W' := after W (L ++ [ob])) ho hw hk (fun d => (hr d).trans (by rw [alloc_after])) he k'
theorem goes_opp {ob : Obj} {v : Value} {j : Nat} (hj : j < L.length) (ho : ops[i]? = some o) (hw : Region.wanted o (yielded ops a.tmps) = true) (hk : b.kind ≠ .early) (hr : ∀ d, (execOp a.eval o).run P ((after W L).at d) = .ok (.value v) (((after W L).at d).putObj (W.heap.size + j) ob))
    (he : ∀ d, ∀ e ∈ (execOp a.eval o).events P ((after W L).at d) #[], E e) (k' : ∀ d, Goes P true AtRel (DE E) Stop n (G (b.at (a.put o.dst v) (.inRegion ops rest :: k)) cs) ((after W (L.set j ob)).at d)) : Goes P true AtRel (DE E) Stop (n + 1) (G (b.at a (.inRegion ops (i :: rest) :: k)) cs) ((after W L).at d₀) :=
  goes_opv (W := (after W L).at d₀) (W' := after W (L.set j ob)) ho hw hk (fun d => (hr d).trans (by rw [put_after _ _ _ _ _ hj])) he k'
end
theorem goes_same {P : Program} {E : Event → Prop} {Stop : Goroutine → World → Prop} {n : Nat} {W : World} {L : List Obj} {d₀ : Nat} {g g' : Goroutine} (hs : g.status = .running) (h : ∀ w, stepG P true g w = .go g' w #[]) (k' : ∀ d, Goes P true AtRel (DE E) Stop n g' ((after W L).at d)) : Goes P true AtRel (DE E) Stop (n + 1) g ((after W L).at d₀) :=
  goes_known (W := (after W L).at d₀) (W' := after W L) (es := #[]) hs (fun d => h _) (fun e he => by simp at he) k'
section
variable {P : Program} {E : Event → Prop} {Stop : Goroutine → World → Prop} {b : Frame} {a : Act} {ops : Array Oper} {i : Nat} {rest : List Nat} {k : List Item} {cs : List Frame} {n : Nat} {W : World} {L L' : List Obj} {d₀ l : Nat} {o : Oper}
theorem goes_rop {v : Value} (ho : ops[i]? = some o) (hw : Region.wanted o (yielded ops a.tmps) = true) (hd : NoDefer o.op) (hk : b.kind ≠ .early) (hr : ∀ d, (execOp a.eval o).run P ((after W L).at d) = .ok (.value v) ((after W L').at d))
    (he : ∀ d, ∀ e ∈ (execOp a.eval o).events P ((after W L).at d) #[], E e) (k' : ∀ d, Goes P true AtRel (DE E) Stop n (G (Rd b l (a.put o.dst v) (.inRegion ops rest :: k)) cs) ((after W L').at d)) : Goes P true AtRel (DE E) Stop (n + 1) (G (Rd b l a (.inRegion ops (i :: rest) :: k)) cs) ((after W L).at d₀) := by
  refine Goes.step rfl fun w1 h1 => ?_
  obtain ⟨d, rfl⟩ := h1
  rw [at_at, rd_value ho hw hd hk (hr d)]
  simp only [goes_go]
  exact ⟨fun e hx => he d e (mem_listed hx), k' d⟩
theorem goes_ropr {v : Value} (ho : ops[i]? = some o) (hw : Region.wanted o (yielded ops a.tmps) = true) (hd : NoDefer o.op) (hk : b.kind ≠ .early) (hr : ∀ d, (execOp a.eval o).run P ((after W L).at d) = .ok (.value v) ((after W L).at d))
    (he : ∀ d, ∀ e ∈ (execOp a.eval o).events P ((after W L).at d) #[], E e) (k' : ∀ d, Goes P true AtRel (DE E) Stop n (G (Rd b l (a.put o.dst v) (.inRegion ops rest :: k)) cs) ((after W L).at d)) : Goes P true AtRel (DE E) Stop (n + 1) (G (Rd b l a (.inRegion ops (i :: rest) :: k)) cs) ((after W L).at d₀) :=
  goes_rop (L' := L) ho hw hd hk hr he k'
theorem goes_rops {ob : Obj} {j : Nat} (ho : ops[i]? = some o) (hw : Region.wanted o (yielded ops a.tmps) = true) (hd : NoDefer o.op) (hk : b.kind ≠ .early) (hr : ∀ d, (execOp a.eval o).run P ((after W L).at d) = .ok .skip ((after W (L.set j ob)).at d))
    (he : ∀ d, ∀ e ∈ (execOp a.eval o).events P ((after W L).at d) #[], E e) (k' : ∀ d, Goes P true AtRel (DE E) Stop n (G (Rd b l (a.put o.dst undef) (.inRegion ops rest :: k)) cs) ((after W (L.set j ob)).at d)) : Goes P true AtRel (DE E) Stop (n + 1) (G (Rd b l a (.inRegion ops (i :: rest) :: k)) cs) ((after W L).at d₀) := by
  refine Goes.step rfl fun w1 h1 => ?_
  obtain ⟨d, rfl⟩ := h1
  rw [at_at, rd_none ho hw hd hk (hr d)]
  simp only [goes_go]
  exact ⟨fun e hx => he d e (mem_listed hx), k' d⟩
theorem goes_ropa {v : Value} {ob : Obj} (ho : ops[i]? = some o) (hw : Region.wanted o (yielded ops a.tmps) = true) (hd : NoDefer o.op) (hk : b.kind ≠ .early) (hr : ∀ d, (execOp a.eval o).run P ((after W L).at d) = .ok (.value v) (((after W L).at d).alloc ob))
    (he : ∀ d, ∀ e ∈ (execOp a.eval o).events P ((after W L).at d) #[], E e) (k' : ∀ d, Goes P true AtRel (DE E) Stop n (G (Rd b l (a.put o.dst v) (.inRegion ops rest :: k)) cs) ((after W (L ++ [ob])).at d)) : Goes P true AtRel (DE E) Stop (n + 1) (G (Rd b l a (.inRegion ops (i :: rest) :: k)) cs) ((after W L).at d₀) :=
  goes_rop (L' := L ++ [ob]) ho hw hd hk (fun d => (hr d).trans (by rw [alloc_after])) he k'
theorem goes_ropx (ho : ops[i]? = some o) (hw : Region.wanted o (yielded ops a.tmps) = true) (hd : NoDefer o.op) (hk : b.kind ≠ .early)
    (h : ∀ d, ∃ v w', (execOp a.eval o).run P ((after W L).at d) = .ok (.value v) w' ∧ (∀ e ∈ (execOp a.eval o).events P ((after W L).at d) #[], E e) ∧ Goes P true AtRel (DE E) Stop n (G (Rd b l (a.put o.dst v) (.inRegion ops rest :: k)) cs) w') :
    Goes P true AtRel (DE E) Stop (n + 1) (G (Rd b l a (.inRegion ops (i :: rest) :: k)) cs) ((after W L).at d₀) := by
  refine Goes.step rfl fun w1 h1 => ?_
  obtain ⟨d, rfl⟩ := h1
  obtain ⟨v, w', hr, he, k'⟩ := h d
  rw [at_at, rd_value ho hw hd hk hr]
  simp only [goes_go]
  exact ⟨fun e hx => he e (mem_listed hx), k'⟩
theorem cells_after {j i : Nat} {c : Array Value} {e : TypeId} {f : Nat × Nat} {v : Value} {d : Nat} (h : L[j]? = some (.cells c e f)) : ((after W L).at d).setCell ⟨W.heap.size + j, i, none⟩ v = (after W (L.set j (.cells (c.setIfInBounds i v) e f))).at d := by
  have hj := (List.getElem?_eq_some_iff.1 h).1
  have : ((after W L).heap.modify (W.heap.size + j) fun | .cells c elem frozen => .cells (c.setIfInBounds i v) elem frozen | o => o) = (after W (L.set j (.cells (c.setIfInBounds i v) e f))).heap := by
    apply Array.ext_getElem?
    intro q
    rw [Array.getElem?_modify]
    rcases Nat.lt_or_ge q W.heap.size with hq | hq
    · rw [if_neg (by omega), after_old hq, after_old hq]
    · obtain ⟨q, rfl⟩ := Nat.exists_eq_add_of_le hq
      rw [after_new, after_new, List.getElem?_set]
      by_cases hqj : j = q
      · subst hqj
        have h2 : L[j] = .cells c e f := (List.getElem?_eq_some_iff.1 h).2
        simp [hj, h2]
      · simp [hqj]
  unfold World.setCell
  simp only [Option.isSome_none, Bool.false_eq_true, if_false]
  exact congrArg (fun h => ({ W with heap := h } : World).at d) this
theorem frozen_after {j i : Nat} {c : Array Value} {e : TypeId} (h : L[j]? = some (.cells c e (0, 0))) : (after W L).frozen? ⟨W.heap.size + j, i, none⟩ = false := by
  have : (after W L).heap[W.heap.size + j]? = some (.cells c e (0, 0)) := after_new.trans h
  simp [World.frozen?, this]
theorem append_run {a : Act} {w w' : World} {v xv v' : Value} (s x : Operand) (t : TypeId) (ho : o.op = .call { callee := .builtin .append, args := #[s, x], argTypes := #[t, t] }) (hs : a.eval s = v) (hx : a.eval x = xv)
    (hr : (Builtin.append_ #[t, t] o.type #[v, xv]).run P w = .ok v' w') : (execOp a.eval o).run P w = .ok (.value v') w' := by
  unfold execOp
  simp only [ho, resolve, invoke, builtin, Sem.run_bind, Sem.run_pure, Result.andThen_ok, List.map_toArray, List.map_cons, List.map_nil, hs, hx, hr]
theorem bs_one {t e : TypeId} {parts : Array (Nat × Value)} {cells : Array Value} {ie : TypeInfo} {z : Value} {w : World} (hu : P.underlying t = some (.slice e)) (hie : P.info? e = some ie) (hz : ie.zero = some z) (hs : ie.size = 1)
    (h : Instr.fill (fun i => some (i * 1, 1)) ((Array.range 1).map (z.cells[· % z.cells.size]!)) parts.toList = some cells) :
    (Instr.buildSlice t 1 parts).run P w = .ok (.slice (some ⟨w.heap.size, 0, none⟩) 1 1) (w.alloc (.cells cells e)) ∧ (Instr.buildSlice t 1 parts).events P w #[] = #[] := by
  constructor
  · exact run_buildSlice w t e 1 parts cells ie z hu hie hz (by rw [hs]; decide) (by rw [hs]; decide) (by rw [hs]; exact h)
  · simp only [Nat.mul_one] at h
    simp [Instr.buildSlice, run_underlying hu, sizeOf, typeInfo, zeroValue, hie, hz, hs, h, newRow]
end
theorem val_ev {P : Program} {s : Sem Value} {v : Value} {w w' : World} {E0 : Array Event} (h : s.run P w = .ok v w' ∧ s.events P w #[] = E0) : (do pure (Next.value (← s)) : Sem Next).events P w #[] = E0 := by
  simp [go_sem, h.1, h.2]
section
variable {P : Program} {w : World} {r m st : Nat} {K V : Value}
theorem range_run {t k e : TypeId} {es : Array MapEntry} {c : Nat} (ht : P.underlying t = some (.map k e)) (hm : w.heap[m]? = some (.map es c)) :
    (Instr.range t (.map (some m))).run P w = .ok (.pointer (some ⟨w.heap.size, 0, none⟩)) (w.alloc (.mapIter (some m) c #[] c)) ∧ (Instr.range t (.map (some m))).events P w #[] = #[⟨.obj m, false, false⟩] :=
  ⟨run_range_map w t k e m es c ht hm, by simp [Instr.range, run_underlying ht, run_getObj_is hm trivial, events_getObj_is hm trivial, Obj.isChan]⟩
theorem next_first {t : TypeId} (hr : w.heap[r]? = some (.mapIter (some m) (st + 1) #[] (st + 1))) (hm : w.heap[m]? = some (.map #[⟨K, V, st⟩] (st + 1))) :
    (Instr.next (.pointer (some ⟨r, 0, none⟩)) false t).run P w = .ok (.tuple #[.bool true, K, V]) (w.putObj r (.mapIter (some m) (st + 1) #[st] (st + 1))) ∧
    (Instr.next (.pointer (some ⟨r, 0, none⟩)) false t).events P w #[] = #[⟨.obj r, false, false⟩, ⟨.obj m, false, false⟩, ⟨.obj r, true, false⟩] := by
  have h1 : (Question.mapNext 1).forced = true := rfl
  have h3 : ¬ (st + 1 ≤ st) := by omega
  constructor
  · simp [Instr.next, run_getObj_is hr trivial, run_getObj_is hm trivial, h1, h3, run_setObj_is hr trivial]
  · simp [Instr.next, run_getObj_is hr trivial, run_getObj_is hm trivial, h1, h3, run_setObj_is hr trivial, events_getObj_is hr trivial, events_getObj_is hm trivial, events_setObj_is hr trivial, Obj.isChan]
theorem next_last {t : TypeId} (hr : w.heap[r]? = some (.mapIter (some m) (st + 1) #[st] (st + 1))) (hm : w.heap[m]? = some (.map #[⟨K, V, st⟩] (st + 1))) :
    (Instr.next (.pointer (some ⟨r, 0, none⟩)) false t).run P w = .ok (.tuple #[.bool false]) w ∧
    (Instr.next (.pointer (some ⟨r, 0, none⟩)) false t).events P w #[] = #[⟨.obj r, false, false⟩, ⟨.obj m, false, false⟩] := by
  have h1 : (Question.mapNext 1).forced = true := rfl
  have h3 : ¬ (st + 1 ≤ st) := by omega
  have h2 : ¬ (st ≥ st + 1) := by omega
  constructor
  · simp [Instr.next, run_getObj_is hr trivial, run_getObj_is hm trivial, h1, h2, h3]
  · simp [Instr.next, run_getObj_is hr trivial, run_getObj_is hm trivial, h1, h2, h3, events_getObj_is hr trivial, events_getObj_is hm trivial, Obj.isChan]
theorem entry_one (hr : w.heap[r]? = some (.mapIter (some m) (st + 1) #[st] (st + 1))) (hm : w.heap[m]? = some (.map #[⟨K, V, st⟩] (st + 1))) :
    (Instr.entry (.pointer (some ⟨r, 0, none⟩))).run P w = .ok (.tuple #[K, V]) w ∧
    (Instr.entry (.pointer (some ⟨r, 0, none⟩))).events P w #[] = #[⟨.obj r, false, false⟩, ⟨.obj m, false, false⟩] := by
  constructor
  · simp [Instr.entry, run_getObj_is hr trivial, run_getObj_is hm trivial]
  · simp [Instr.entry, run_getObj_is hr trivial, run_getObj_is hm trivial, events_getObj_is hr trivial, events_getObj_is hm trivial, Obj.isChan]
end
section
variable {E : Event → Prop} {Ok : Nat → Prop} {Stop : Goroutine → World → Prop} {b₀ : Frame} {a₀ : Act} {ops : Array Oper} {i : Nat} {rest : List Nat} {k : List Item} {cs : List Frame} {n : Nat} {W : World}
theorem keys_goes {mb : Nat} (hk : ∀ d, Goes Tryz.prog true AtRel (DE E) Stop n (G (b₀.at (a₀.put ((ops[i]?).bind (·.dst)) (.func (.func 47) #[] #[.pointer (some ⟨W.heap.size, 0, none⟩)])) (.inRegion ops rest :: k)) cs) ((after W [.cells #[.map (some mb)] 81]).at d)) :
    Goes Tryz.prog true AtRel (DE E) Stop (n + 20) (G ((base 28).at ⟨#[.map (some mb), undef, undef, undef], []⟩ [.code (Tryz.f28.body.getD .skip)]) (b₀.at a₀ (.inRegion ops (i :: rest) :: k) :: cs)) W := by
  simp only [Tryz.f28, Option.getD_some]
  l_c stepG_seq
  l_reg
  refine goes_opv (v := .pointer (some ⟨W.heap.size, 0, none⟩)) (W' := after W [.cells #[.map (some mb)] 81]) rfl rfl (by k_ne) (fun d => ?_) (fun d e he => ?_) (fun d => ?_)
  · show Sem.run Tryz.prog _ _ = _
    simp [go_sem, execOp, Act.eval, alloc_base]
  · simp [go_sem, execOp, Act.eval] at he
  walk_nrm
  repeat (first
    | (l_c stepG_seq)
    | (l_c stepG_region_end)
    | (l_c stepG_skip)
    | (l_c stepG_block)
    | (l_c stepG_loop)
    | (l_c stepG_inLoop)
    | (l_c stepG_inBlock)
    | (l_c stepG_ret')
    | (l_c stepG_end)
    | (l_reg)
    | (l_cond true)
    | (l_cond false)
    | (l_in; refine goes_exit rfl ?_; refine ⟨by u_nil, ?_⟩)
    | (l_op)
    | (l_leave1 Tryz.func28))
  exact Goes.mono (hk _) (by omega)
theorem seq_goes {mb bx st : Nat} {kk : Int} {V : Value} (hE : Lets E Ok) (hbx : W.cell? ⟨bx, 0, none⟩ = some (.map (some mb))) (hmb : W.heap[mb]? = some (.map #[⟨.int .i64 kk, V, st⟩] (st + 1))) (obx : Ok bx) (omb : Ok mb) (onew : ∀ j, j < 6 → Ok (W.heap.size + j))
    (hk : ∀ d L cap, L.length = 6 → L[5]? = some (.cells (#[.int .i64 kk] ++ Builtin.zeroCells (Value.int .i64 0).cells (cap - 1)) 3) → Goes Tryz.prog true AtRel (DE E) Stop n (G (b₀.at (a₀.put ((ops[i]?).bind (·.dst)) (.slice (some ⟨W.heap.size + 5, 0, none⟩) 1 cap)) (.inRegion ops rest :: k)) cs) ((after W L).at d)) :
    Goes Tryz.prog true AtRel (DE E) Stop (n + 100) (G ((base 73).at ⟨#[.slice none 0 0, .func (.func 47) #[] #[.pointer (some ⟨bx, 0, none⟩)], undef, undef, undef, undef, undef, undef, undef, undef, undef, undef, undef], []⟩ [.code (Tryz.f73.body.getD .skip)]) (b₀.at a₀ (.inRegion ops (i :: rest) :: k) :: cs)) W := by
  simp only [Tryz.f73, Option.getD_some]
  l_c stepG_seq
  l_reg
  refine goes_opv (v := .pointer (some ⟨W.heap.size, 0, none⟩)) (W' := after W [.cells #[.slice none 0 0] 22]) rfl rfl (by k_ne) (fun d => ?_) (fun d e he => ?_) (fun d => ?_)
  · show Sem.run Tryz.prog _ _ = _
    simp [go_sem, execOp, Act.eval, alloc_base]
  · simp [go_sem, execOp, Act.eval] at he
  walk_nrm
  repeat (first
    | (l_c stepG_seq)
    | (l_c stepG_region_end)
    | (l_c stepG_skip)
    | (l_c stepG_block)
    | (l_c stepG_loop)
    | (l_c stepG_inLoop)
    | (l_c stepG_inBlock)
    | (l_c stepG_ret')
    | (l_c stepG_end)
    | (l_reg)
    | (l_cond true)
    | (l_cond false)
    | (l_in; refine goes_exit rfl ?_; refine ⟨by u_nil, ?_⟩)
    | (l_op)
 )
  refine goes_rangeFunc rfl rfl Tryz.func47 nm47 rfl (fun d => ?_)
  walk_nrmf Tryz.f47
  simp only [List.length_cons, List.length_nil, Nat.zero_add, Nat.reduceAdd, Nat.add_assoc, List.cons_append, List.nil_append, List.append_nil]
  l_c stepG_seq
  l_reg
  refine goes_opr (v := .map (some mb)) rfl rfl (by k_ne) (fun d => ?_) (fun d e he => ?_) (fun d => ?_)
  · have hc := fun l => after_cell_old (l := l) hbx
    show Sem.run Tryz.prog _ _ = _
    simp [go_sem, execOp, Act.eval, hc]
  · have hc := fun l => after_cell_old (l := l) hbx
    simp [go_sem, execOp, Act.eval, hc] at he
    subst he
    exact hE.cell _ _ _ obx
  walk_nrm
  have hm2 : ∀ L d, ((after W L).at d).heap[mb]? = some (.map #[⟨.int .i64 kk, V, st⟩] (st + 1)) := fun L d => (after_old (Array.getElem?_eq_some_iff.1 hmb).1).trans hmb
  refine goes_opn' (v := .pointer (some ⟨W.heap.size + 3, 0, none⟩)) (ob := .mapIter (some mb) (st + 1) #[] (st + 1)) rfl rfl (by k_ne) (fun d => ?_) (fun d e he => ?_) (fun d => ?_)
  · exact val_run ((range_run (k := 3) (e := 53) rfl (hm2 _ d)).1.trans (by rw [size_after]; rfl))
  · rw [show (execOp _ _).events _ _ _ = _ from val_ev (range_run (k := 3) (e := 53) rfl (hm2 _ d))] at he
    simp at he
    subst he
    exact hE.obj _ _ omb
  walk_nrm
  try simp only [List.cons_append, List.nil_append]
  repeat (first
    | (l_c stepG_seq)
    | (l_c stepG_region_end)
    | (l_c stepG_skip)
    | (l_c stepG_block)
    | (l_c stepG_loop)
    | (l_c stepG_inLoop)
    | (l_c stepG_inBlock)
    | (l_c stepG_ret')
    | (l_c stepG_end)
    | (l_reg)
    | (l_cond true)
    | (l_cond false)
    | (l_in; refine goes_exit rfl ?_; refine ⟨by u_nil, ?_⟩)
    | (l_op)
 )
  refine goes_opp (v := .tuple #[.bool true, .int .i64 kk, V]) (j := 3) (ob := .mapIter (some mb) (st + 1) #[st] (st + 1)) (by simp) rfl rfl (by k_ne) (fun d => ?_) (fun d e he => ?_) (fun d => ?_)
  · exact val_run (next_first (heap_after W _ d 3) (hm2 _ d)).1
  · rw [show (execOp _ _).events _ _ _ = _ from val_ev (next_first (heap_after W _ d 3) (hm2 _ d))] at he
    simp at he
    rcases he with rfl | rfl | rfl
    · exact hE.obj _ _ (onew 3 (by decide))
    · exact hE.obj _ _ omb
    · exact hE.obj _ _ (onew 3 (by decide))
  walk_nrm
  try simp only [List.set_cons_succ, List.set_cons_zero]
  repeat (first
    | (l_c stepG_seq)
    | (l_c stepG_region_end)
    | (l_c stepG_skip)
    | (l_c stepG_block)
    | (l_c stepG_loop)
    | (l_c stepG_inLoop)
    | (l_c stepG_inBlock)
    | (l_c stepG_ret')
    | (l_c stepG_end)
    | (l_reg)
    | (l_cond true)
    | (l_cond false)
    | (l_in; refine goes_exit rfl ?_; refine ⟨by u_nil, ?_⟩)
    | (l_op)
 )
  refine goes_opr (v := .tuple #[.int .i64 kk, V]) rfl rfl (by k_ne) (fun d => ?_) (fun d e he => ?_) (fun d => ?_)
  · exact val_run (entry_one (heap_after W _ d 3) (hm2 _ d)).1
  · rw [show (execOp _ _).events _ _ _ = _ from val_ev (entry_one (heap_after W _ d 3) (hm2 _ d))] at he
    simp at he
    rcases he with rfl | rfl
    · exact hE.obj _ _ (onew 3 (by decide))
    · exact hE.obj _ _ omb
  walk_nrm
  repeat (first
    | (l_c stepG_seq)
    | (l_c stepG_region_end)
    | (l_c stepG_skip)
    | (l_c stepG_block)
    | (l_c stepG_loop)
    | (l_c stepG_inLoop)
    | (l_c stepG_inBlock)
    | (l_c stepG_ret')
    | (l_c stepG_end)
    | (l_reg)
    | (l_cond true)
    | (l_cond false)
    | (l_in; refine goes_exit rfl ?_; refine ⟨by u_nil, ?_⟩)
    | (l_op)
 )
  refine goes_yield (j := 2) hE (onew 2 (by decide)) rfl rfl (by k_ne) rfl rfl rfl rfl (fun d => ?_)
  simp only [Act.eval, List.map_toArray, List.map_cons, List.map_nil, Array.getD_eq_getD_getElem?, List.getElem?_toArray, List.getElem?_cons_succ, List.getElem?_cons_zero, Option.getD_some, List.zip_toArray, List.zip_cons_cons, List.zip_nil_left, List.zip_nil_right, List.foldl_toArray, List.foldl_cons, List.foldl_nil, List.setIfInBounds_toArray, List.set_cons_succ, List.set_cons_zero]
  refine goes_same rfl (fun w => rd_region) (fun d => ?_)
  simp only [List.size_toArray, List.length_cons, List.length_nil, Nat.reduceAdd, Nat.zero_add, List.range, List.range.loop]
  refine goes_ropr (v := .int .i64 kk) rfl rfl trivial (by k_ne) (fun d => ?_) (fun d e he => ?_) (fun d => ?_)
  · show Sem.run Tryz.prog _ _ = _
    simp [go_sem, execOp, Act.eval]
  · simp [go_sem, execOp, Act.eval] at he
  walk_nrm
  refine goes_same rfl (fun w => rd_region_end) (fun d => ?_)
  refine goes_begin (j := 2) hE (onew 2 (by decide)) (by k_ne) rfl rfl (fun d => ?_)
  try simp only [List.set_cons_succ, List.set_cons_zero]
  refine goes_same rfl (fun w => rd_block) (fun d => ?_)
  refine goes_same rfl (fun w => rd_region) (fun d => ?_)
  simp only [List.size_toArray, List.length_cons, List.length_nil, Nat.reduceAdd, Nat.zero_add, List.range, List.range.loop]
  refine goes_ropr (v := .slice none 0 0) rfl rfl trivial (by k_ne) (fun d => ?_) (fun d e he => ?_) (fun d => ?_)
  · have hc : ∀ l c, (after W (.cells #[.slice none 0 0] c :: l)).cell? ⟨W.heap.size, 0, none⟩ = some (.slice none 0 0) := fun l c => after_cell (j := 0) rfl rfl
    show Sem.run Tryz.prog _ _ = _
    simp [go_sem, execOp, Act.eval, hc]
  · have hc : ∀ l c, (after W (.cells #[.slice none 0 0] c :: l)).cell? ⟨W.heap.size, 0, none⟩ = some (.slice none 0 0) := fun l c => after_cell (j := 0) rfl rfl
    simp [go_sem, execOp, Act.eval, hc] at he
    subst he
    exact hE.cell _ _ _ (onew 0 (by decide))
  walk_nrm
  refine goes_ropr (v := .int .i64 kk) rfl rfl trivial (by k_ne) (fun d => ?_) (fun d e he => ?_) (fun d => ?_)
  · show Sem.run Tryz.prog _ _ = _
    simp [go_sem, execOp, Act.eval]
  · simp [go_sem, execOp, Act.eval] at he
  walk_nrm
  obtain ⟨i0, hi, hz0, hz1, hz2⟩ : ∃ i0, Tryz.prog.info? 3 = some i0 ∧ i0.zero = some (.int .i64 0) ∧ i0.size = 1 ∧ i0.bytes = 8 := ⟨_, rfl, rfl, rfl, rfl⟩
  have hbs := fun w => bs_one (P := Tryz.prog) (t := 22) (e := 3) (parts := #[(0, Value.int .i64 kk)]) (cells := #[.int .i64 kk]) (ie := i0) (z := .int .i64 0) (w := w) rfl hi hz0 hz1 (by have h0 : Array.range 0 = #[] := rfl; simp [Instr.fill, Value.cells, Array.range_succ, h0])
  have hbr := fun w => (hbs w).1
  have hbe := fun w => (hbs w).2
  refine goes_ropa (ob := .cells #[.int .i64 kk] 3) (v := .slice (some ⟨W.heap.size + 4, 0, none⟩) 1 1) rfl rfl trivial (by k_ne) (fun d => ?_) (fun d e he => ?_) (fun d => ?_)
  · show Sem.run Tryz.prog _ _ = _
    simp [go_sem, execOp, Act.eval, hbr, size_after]
  · simp [go_sem, execOp, Act.eval, hbr, hbe] at he
  walk_nrm
  try simp only [List.cons_append, List.nil_append]
  have hnews : ∀ (w : World), w.cell? ⟨W.heap.size + 4, 0, none⟩ = some (.int .i64 kk) → ∀ j u, [Value.int .i64 kk][j]? = some u → w.cell? ((⟨W.heap.size + 4, 0, none⟩ : Addr).add j) = some u := by
    intro w hw j u hj
    match j, hj with
    | 0, hj => simp at hj; subst hj; simpa [Addr.add] using hw
  have hap := fun (L : List Obj) (hL : L[4]? = some (.cells #[.int .i64 kk] 3)) (d : Nat) => run_append_nil (P := Tryz.prog) ((after W L).at d) 22 22 3 i0 (.int .i64 0) rfl hi hz0 ⟨W.heap.size + 4, 0, none⟩ 1 1 [.int .i64 kk] (by rw [hz1]; rfl) (hnews ((after W L).at d) (after_cell (j := 4) hL rfl)) (by omega) (by omega) (by rw [hz2]; omega)
  have hev := fun (L : List Obj) (hL : L[4]? = some (.cells #[.int .i64 kk] 3)) (d : Nat) => events_append_where (P := Tryz.prog) ((after W L).at d) 0 22 22 3 i0 (.int .i64 0) 1 8 rfl hi hz0 hz1 hz2 (.slice none 0 0) 0 [] (World.ownsRow_nil _ _ _ _) ⟨W.heap.size + 4, 0, none⟩ 1 1 [.int .i64 kk] rfl (hnews ((after W L).at d) (after_cell (j := 4) hL rfl)) (by intro u hu; simp at hu; subst hu; rfl) (by decide) (by omega)
  refine goes_ropx rfl rfl trivial (by k_ne) (fun d => ?_)
  refine ⟨_, _, append_run (.tmp 8) (.tmp 10) 22 rfl rfl rfl (hap _ rfl d), fun e he => ?_, ?_⟩
  · rw [events_append_op (.tmp 8) (.tmp 10) 22 rfl rfl rfl] at he
    rcases hev _ rfl d e he with ⟨ad, h2, h3⟩ | ⟨m, rfl, hn⟩
    · obtain ⟨l, x, y⟩ := e
      simp only at h2 h3
      subst h2
      rcases h3 with ⟨rfl, h4⟩ | h4
      · exact hE.cell _ _ _ (by rw [h4]; exact onew 4 (by decide))
      · simp [Value.ownBlock] at h4
    · unfold Neutral at hn
      subst hn
      exact hE.room
  clear hap hev
  generalize hcap : grownCap _ _ _ _ = cap
  clear hcap
  rw [show ((after W _).at d).drew = (after W _).at (d + 1) from rfl, alloc_after]
  simp only [size_after, List.length_cons, List.length_nil, Nat.reduceAdd, Nat.zero_add, List.cons_append, List.nil_append]
  walk_nrm
  have hx : ∀ l c d, ((after W (.cells #[.slice none 0 0] c :: l)).at d).setCell ⟨W.heap.size, 0, none⟩ (.slice (some ⟨W.heap.size + 5, 0, none⟩) 1 cap) = (after W ((.cells #[.slice none 0 0] c :: l).set 0 (.cells #[.slice (some ⟨W.heap.size + 5, 0, none⟩) 1 cap] c))).at d := fun l c d => cells_after (j := 0) (c := #[.slice none 0 0]) rfl
  have hc : ∀ l c, (after W (.cells #[.slice none 0 0] c :: l)).cell? ⟨W.heap.size, 0, none⟩ = some (.slice none 0 0) := fun l c => after_cell (j := 0) rfl rfl
  have hf : ∀ l c, (after W (.cells #[.slice none 0 0] c :: l)).frozen? ⟨W.heap.size, 0, none⟩ = false := fun l c => frozen_after (j := 0) rfl
  refine goes_rops (j := 0) (ob := .cells #[.slice (some ⟨W.heap.size + 5, 0, none⟩) 1 cap] 22) rfl rfl trivial (by k_ne) (fun d => ?_) (fun d e he => ?_) (fun d => ?_)
  · show Sem.run Tryz.prog _ _ = _
    simp [go_sem, execOp, Act.eval, hc, hf, hx]
  · have hes : ∀ (w : World) (a : Addr) (b : Option Addr) (l c : Nat) (m : Mode) es, (store a (.slice b l c) m).events Tryz.prog w es = storedEv Tryz.prog w es a (.slice b l c) m := fun w a b l c m es => events_store Tryz.prog w es a _ m rfl
    simp [go_sem, execOp, Act.eval, hc, hf, hes] at he
    subst he
    exact hE.cell _ _ _ (onew 0 (by decide))
  walk_nrm
  try simp only [List.set_cons_succ, List.set_cons_zero]
  refine goes_same rfl (fun w => rd_region_end) (fun d => ?_)
  refine goes_same rfl (fun w => rd_inBlock) (fun d => ?_)
  refine goes_rdend (j := 2) hE (onew 2 (by decide)) rfl rfl rfl (fun d => ?_)
  walk_nrm
  try simp only [List.set_cons_succ, List.set_cons_zero]
  repeat (first
    | (l_c stepG_seq)
    | (l_c stepG_region_end)
    | (l_c stepG_skip)
    | (l_c stepG_block)
    | (l_c stepG_loop)
    | (l_c stepG_inLoop)
    | (l_c stepG_inBlock)
    | (l_c stepG_ret')
    | (l_c stepG_end)
    | (l_reg)
    | (l_cond true)
    | (l_cond false)
    | (l_in; refine goes_exit rfl ?_; refine ⟨by u_nil, ?_⟩)
    | (l_op)
 )
  refine goes_opr (v := .tuple #[.bool false]) rfl rfl (by k_ne) (fun d => ?_) (fun d e he => ?_) (fun d => ?_)
  · exact val_run (next_last (heap_after W _ d 3) (hm2 _ d)).1
  · rw [show (execOp _ _).events _ _ _ = _ from val_ev (next_last (heap_after W _ d 3) (hm2 _ d))] at he
    simp at he
    rcases he with rfl | rfl
    · exact hE.obj _ _ (onew 3 (by decide))
    · exact hE.obj _ _ omb
  walk_nrm
  repeat (first
    | (l_c stepG_seq)
    | (l_c stepG_region_end)
    | (l_c stepG_skip)
    | (l_c stepG_block)
    | (l_c stepG_loop)
    | (l_c stepG_inLoop)
    | (l_c stepG_inBlock)
    | (l_c stepG_ret')
    | (l_c stepG_end)
    | (l_reg)
    | (l_cond true)
    | (l_cond false)
    | (l_in; refine goes_exit rfl ?_; refine ⟨by u_nil, ?_⟩)
    | (l_op)
 )
  refine goes_backRange rfl rfl Tryz.func47 rfl (fun d => ?_)
  try simp only [at_at]
  refine goes_endRange (j := 2) hE (onew 2 (by decide)) rfl (by intro h; cases h) rfl (fun d => ?_)
  try simp only [List.set_cons_succ, List.set_cons_zero]
  repeat (first
    | (l_c stepG_seq)
    | (l_c stepG_region_end)
    | (l_c stepG_skip)
    | (l_c stepG_block)
    | (l_c stepG_loop)
    | (l_c stepG_inLoop)
    | (l_c stepG_inBlock)
    | (l_c stepG_ret')
    | (l_c stepG_end)
    | (l_reg)
    | (l_cond true)
    | (l_cond false)
    | (l_in; refine goes_exit rfl ?_; refine ⟨by u_nil, ?_⟩)
    | (l_op)
 )
  have hc2 : ∀ l c, (after W (.cells #[.slice (some ⟨W.heap.size + 5, 0, none⟩) 1 cap] c :: l)).cell? ⟨W.heap.size, 0, none⟩ = some (.slice (some ⟨W.heap.size + 5, 0, none⟩) 1 cap) := fun l c => after_cell (j := 0) rfl rfl
  refine goes_opr (v := .slice (some ⟨W.heap.size + 5, 0, none⟩) 1 cap) rfl rfl (by k_ne) (fun d => ?_) (fun d e he => ?_) (fun d => ?_)
  · show Sem.run Tryz.prog _ _ = _
    simp [go_sem, execOp, Act.eval, hc2]
  · simp [go_sem, execOp, Act.eval, hc2] at he
    subst he
    exact hE.cell _ _ _ (onew 0 (by decide))
  walk_nrm
  repeat (first
    | (l_c stepG_seq)
    | (l_c stepG_region_end)
    | (l_c stepG_skip)
    | (l_c stepG_block)
    | (l_c stepG_loop)
    | (l_c stepG_inLoop)
    | (l_c stepG_inBlock)
    | (l_c stepG_ret')
    | (l_c stepG_end)
    | (l_reg)
    | (l_cond true)
    | (l_cond false)
    | (l_in; refine goes_exit rfl ?_; refine ⟨by u_nil, ?_⟩)
    | (l_op)
 )
  refine goes_collect (j := 1) hE (onew 1 (by decide)) rfl (fun d => ?_)
  try simp only [List.set_cons_succ, List.set_cons_zero]
  l_leave1 Tryz.func73
  exact Goes.mono (hk _ _ cap (by rfl) (by rfl)) (by omega)
theorem collect_goes {mb bx st : Nat} {kk : Int} {V : Value} (hE : Lets E Ok) (hbx : W.cell? ⟨bx, 0, none⟩ = some (.map (some mb))) (hmb : W.heap[mb]? = some (.map #[⟨.int .i64 kk, V, st⟩] (st + 1))) (obx : Ok bx) (omb : Ok mb) (onew : ∀ j, j < 6 → Ok (W.heap.size + j))
    (hk : ∀ d L cap, L.length = 6 → L[5]? = some (.cells (#[.int .i64 kk] ++ Builtin.zeroCells (Value.int .i64 0).cells (cap - 1)) 3) → Goes Tryz.prog true AtRel (DE E) Stop n (G (b₀.at (a₀.put ((ops[i]?).bind (·.dst)) (.slice (some ⟨W.heap.size + 5, 0, none⟩) 1 cap)) (.inRegion ops rest :: k)) cs) ((after W L).at d)) :
    Goes Tryz.prog true AtRel (DE E) Stop (n + 140) (G ((base 45).at ⟨#[.func (.func 47) #[] #[.pointer (some ⟨bx, 0, none⟩)], undef, undef, undef, undef], []⟩ [.code (Tryz.f45.body.getD .skip)]) (b₀.at a₀ (.inRegion ops (i :: rest) :: k) :: cs)) W := by
  simp only [Tryz.f45, Option.getD_some]
  repeat (first
    | (l_c stepG_seq)
    | (l_c stepG_region_end)
    | (l_c stepG_skip)
    | (l_c stepG_block)
    | (l_c stepG_loop)
    | (l_c stepG_inLoop)
    | (l_c stepG_inBlock)
    | (l_c stepG_ret')
    | (l_c stepG_end)
    | (l_reg)
    | (l_cond true)
    | (l_cond false)
    | (l_in; refine goes_exit rfl ?_; refine ⟨by u_nil, ?_⟩)
    | (l_op)
 )
  l_call Tryz.func73 nm73 Tryz.f73
  refine seq_goes hE hbx hmb obx omb onew (fun d L cap hL1 hL2 => ?_)
  walk_nrm
  repeat (first
    | (l_c stepG_seq)
    | (l_c stepG_region_end)
    | (l_c stepG_skip)
    | (l_c stepG_block)
    | (l_c stepG_loop)
    | (l_c stepG_inLoop)
    | (l_c stepG_inBlock)
    | (l_c stepG_ret')
    | (l_c stepG_end)
    | (l_reg)
    | (l_cond true)
    | (l_cond false)
    | (l_in; refine goes_exit rfl ?_; refine ⟨by u_nil, ?_⟩)
    | (l_op)
    | (l_leave1 Tryz.func45))
  exact Goes.mono (hk _ L cap hL1 hL2) (by omega)
theorem sorted_goes {mb bx st : Nat} {kk : Int} {V : Value} (hE : Lets E Ok) (hbx : W.cell? ⟨bx, 0, none⟩ = some (.map (some mb))) (hmb : W.heap[mb]? = some (.map #[⟨.int .i64 kk, V, st⟩] (st + 1))) (obx : Ok bx) (omb : Ok mb) (onew : ∀ j, j < 6 → Ok (W.heap.size + j))
    (hk : ∀ d L cap, L.length = 6 → L[5]? = some (.cells (#[.int .i64 kk] ++ Builtin.zeroCells (Value.int .i64 0).cells (cap - 1)) 3) → Goes Tryz.prog true AtRel (DE E) Stop n (G (b₀.at (a₀.put ((ops[i]?).bind (·.dst)) (.slice (some ⟨W.heap.size + 5, 0, none⟩) 1 cap)) (.inRegion ops rest :: k)) cs) ((after W L).at d)) :
    Goes Tryz.prog true AtRel (DE E) Stop (n + 450) (G ((base 27).at ⟨#[.func (.func 47) #[] #[.pointer (some ⟨bx, 0, none⟩)], undef, undef, undef, undef, undef, undef, undef, undef], []⟩ [.code (Tryz.f27.body.getD .skip)]) (b₀.at a₀ (.inRegion ops (i :: rest) :: k) :: cs)) W := by
  simp only [Tryz.f27, Option.getD_some]
  repeat (first
    | (l_c stepG_seq)
    | (l_c stepG_region_end)
    | (l_c stepG_skip)
    | (l_c stepG_block)
    | (l_c stepG_loop)
    | (l_c stepG_inLoop)
    | (l_c stepG_inBlock)
    | (l_c stepG_ret')
    | (l_c stepG_end)
    | (l_reg)
    | (l_cond true)
    | (l_cond false)
    | (l_in; refine goes_exit rfl ?_; refine ⟨by u_nil, ?_⟩)
    | (l_op)
 )
  l_call Tryz.func45 nm45 Tryz.f45
  refine collect_goes hE hbx hmb obx omb onew (fun d L cap hL1 hL2 => ?_)
  walk_nrm
  repeat (first
    | (l_c stepG_seq)
    | (l_c stepG_region_end)
    | (l_c stepG_skip)
    | (l_c stepG_block)
    | (l_c stepG_loop)
    | (l_c stepG_inLoop)
    | (l_c stepG_inBlock)
    | (l_c stepG_ret')
    | (l_c stepG_end)
    | (l_reg)
    | (l_cond true)
    | (l_cond false)
    | (l_in; refine goes_exit rfl ?_; refine ⟨by u_nil, ?_⟩)
    | (l_op)
 )
  l_call Tryz.func46 nm46 Tryz.f46
  refine sort_one (fun d => ?_)
  walk_nrm
  repeat (first
    | (l_c stepG_seq)
    | (l_c stepG_region_end)
    | (l_c stepG_skip)
    | (l_c stepG_block)
    | (l_c stepG_loop)
    | (l_c stepG_inLoop)
    | (l_c stepG_inBlock)
    | (l_c stepG_ret')
    | (l_c stepG_end)
    | (l_reg)
    | (l_cond true)
    | (l_cond false)
    | (l_in; refine goes_exit rfl ?_; refine ⟨by u_nil, ?_⟩)
    | (l_op)
    | (l_leave1 Tryz.func27))
  exact Goes.mono (hk _ L cap hL1 hL2) (by omega)
end
end Pool
end Go.Proofs.YtdkpbobglogmoaaGreat
namespace Go.Proofs.YtdkpbobglogmoaaGreat
open Go Go.Conc
open Go.ConcR (KK wgBlock WgAt stA smA rd wr mk)
namespace Pool
open Ren (Loc.blk Rely Gt Gk Rk Terms Did EvO New With)
structure Cfg where
  P : Program
  ty : TypeId
  aty : TypeId
  Wg : Nat
  A : Nat
  C : Nat
  n : Nat
  N : Nat
  b : Nat
  Cold : Nat → Prop
  Item : Nat → Value → (Nat → Prop) → World → Prop
  Lp : Goroutine → World → Prop
  Mp : List Nat → (Nat → Prop) → Goroutine → World → Prop
  Fin : List Nat → (Nat → Prop) → Goroutine → World → Prop
  ChC : Goroutine → World → Prop
  Anc : Goroutine → World → Prop
section
variable (c : Cfg)
def Cfg.Sb (b : Nat) : Prop := b = c.Wg ∨ b = c.A ∨ b = c.C
def CtAt (w : World) (v : Nat) : Prop := w.heap[c.A]? = some (.cells #[.int .i64 v] c.aty)
def ChAt (w : World) (buf : Array Value) (cl : Bool) (s r : Nat) : Prop := w.heap[c.C]? = some (.chan c.n buf cl s r false)
def Cfg.Liv (w : World) : Prop := (∃ st sm, WgAt c.ty c.Wg w st sm) ∧ (∃ v, CtAt c w v) ∧ ∃ buf cl s r, ChAt c w buf cl s r
def Cfg.Tw : Terms := { P := c.P, main := false, Cold := c.Cold, Liv := c.Liv, Say := fun _ => False }
def Cfg.T0 : Terms := { P := c.P, main := false, Cold := fun _ => False, Liv := c.Liv, Say := fun _ => False, Calm := True }
def Cfg.Tc : Terms := { P := c.P, main := false, Cold := c.Cold, Liv := c.Liv, Say := fun b => b = c.Wg }
def Cfg.Tm : Terms := { P := c.P, main := true, Cold := c.Cold, Liv := c.Liv, Say := fun b => b = c.Wg }
def Cfg.Tr : Terms := { P := c.P, main := true, Cold := c.Cold, Liv := c.Liv, Say := fun _ => False }
abbrev Stp := Nat → (Nat → Prop) → Goroutine → World → Prop
def None : Nat → Prop := fun _ => False
def AtSemrel : Stp := fun d O g w => g.status = .running ∧ d = 1 ∧ mayWake c.P g = true ∧ (WgAt c.ty c.Wg w 0 0 → ∃ g' q, stepG c.P false g w = .go g' (w.setCell (smA c.Wg) (.int .u32 1)) (semEvents (smA c.Wg)) ∧ QuitsD c.P q 1 g')
def AtStore0 : Stp := fun d O g w => g.status = .running ∧ d = 1 ∧ (WgAt c.ty c.Wg w 1 0 → ∃ g', stepG c.P false g w = .go g' (w.setCell (stA c.Wg) (.int .u64 0)) #[wr (stA c.Wg)] ∧ Gt c.T0 (AtSemrel c) 1 None g' (w.setCell (stA c.Wg) (.int .u64 0)))
def AtLoad2 : Stp := fun d O g w => g.status = .running ∧ d = 1 ∧ (WgAt c.ty c.Wg w 1 0 → ∃ g', stepG c.P false g w = .go g' w #[rd (stA c.Wg)] ∧ Gt c.T0 (AtStore0 c) 1 None g' w)
def AtAdd : Stp := fun d O g w => g.status = .running ∧ d = 1 ∧ ∀ v wt : Nat, 1 ≤ v → v < 2147483648 → wt ≤ 1 → WgAt c.ty c.Wg w (v * KK + wt) 0 →
  ∃ g', stepG c.P false g w = .go g' (w.setCell (stA c.Wg) (.int .u64 ((v - 1 : Nat) * KK + wt))) #[rd (stA c.Wg), wr (stA c.Wg)] ∧
    ((v = 1 ∧ wt = 1) → Gt c.T0 (AtLoad2 c) 1 None g' (w.setCell (stA c.Wg) (.int .u64 ((v - 1 : Nat) * KK + wt)))) ∧ (¬ (v = 1 ∧ wt = 1) → ∃ q, QuitsD c.P q 1 g')
def AtRel : Stp := fun d O g w => g.status = .running ∧ d = 0 ∧ ∃ g', stepG c.P false g w = .go g' w #[mk (.releaseMerge (stA c.Wg))] ∧ Gt c.T0 (AtAdd c) 0 None g' w
def AtSend (k : Nat) : Stp := fun d O g w => g.status = .running ∧ d = 0 ∧ ∃ z v, stepG c.P false g w = .comm (core g) #[scase c.C v z] true .send w #[] ∧ c.Item k v O w ∧ ∀ w1, Rely c.Cold c.Liv None w w1 → c.Lp (Conc.served (core g) undef) w1
def EvA (e : Event) : Prop := e.loc = .cell ⟨c.A, 0, none⟩ ∧ e.sync = true
def AtFetch : Stp := fun d O g w => g.status = .running ∧ d = 0 ∧ ∀ v : Nat, v < 4611686018427387904 → CtAt c w v → ∃ g' es, stepG c.P false g w = .go g' (w.setCell ⟨c.A, 0, none⟩ (.int .i64 (v + 1 : Nat))) es ∧ (∀ e ∈ es, EvA c e) ∧
  (v < c.N → Gt c.Tw (AtSend c v) 0 O g' (w.setCell ⟨c.A, 0, none⟩ (.int .i64 (v + 1 : Nat)))) ∧ (c.N ≤ v → Gt c.Tw (AtRel c) 0 O g' (w.setCell ⟨c.A, 0, none⟩ (.int .i64 (v + 1 : Nat))))
def AtClose : Stp := fun d O g w => g.status = .running ∧ d = 0 ∧ mayWake c.P g = true ∧ ∀ buf s r, ChAt c w buf false s r → ∃ g' q, stepG c.P false g w = .go g' (w.setChan c.C c.n buf true s r false) #[⟨.obj c.C, false, true⟩, ⟨.obj c.C, true, true⟩] ∧ QuitsD c.P q 0 g'
def AtAcq : Stp := fun d O g w => g.status = .running ∧ d = 0 ∧ ∃ g', stepG c.P false g w = .go g' w #[mk (.acquire (stA c.Wg))] ∧ Gt c.Tc (AtClose c) 0 None g' w
def AtW4 : Stp := fun d O g w => g.status = .running ∧ d = 1 ∧ (WgAt c.ty c.Wg w 0 0 → ∃ g', stepG c.P false g w = .go g' w #[rd (stA c.Wg)] ∧ Gt c.Tc (AtAcq c) 1 None g' w)
def AtW3 : Stp := fun d O g w => g.status = .running ∧ d = 1 ∧ g.offers = none ∧ ((∃ st, WgAt c.ty c.Wg w st 0) → stepG c.P false g w = .go { g with status := .blocked } w #[]) ∧
  (WgAt c.ty c.Wg w 0 1 → ∃ g', stepG c.P false g w = .go g' (w.setCell (smA c.Wg) (.int .u32 0)) (semEvents (smA c.Wg)) ∧ Gt c.Tc (AtW4 c) 1 None g' (w.setCell (smA c.Wg) (.int .u32 0)))
def AtW2 (vs : Nat) : Stp := fun d O g w => g.status = .running ∧ d = 1 ∧ ∀ v : Nat, v < 2147483648 → WgAt c.ty c.Wg w (v * KK) 0 →
  (v = vs → ∃ g', stepG c.P false g w = .go g' (w.setCell (stA c.Wg) (.int .u64 (v * KK + 1))) #[rd (stA c.Wg), wr (stA c.Wg)] ∧ Gt c.Tc (AtW3 c) 1 None g' (w.setCell (stA c.Wg) (.int .u64 (v * KK + 1)))) ∧
  (v ≠ vs → ∃ g', stepG c.P false g w = .go g' w #[rd (stA c.Wg)] ∧ c.Anc g' w)
def AtW1 : Stp := fun d O g w => g.status = .running ∧ d = 1 ∧ ∀ v : Nat, v < 2147483648 → WgAt c.ty c.Wg w (v * KK) 0 → ∃ g', stepG c.P false g w = .go g' w #[rd (stA c.Wg)] ∧
  (v = 0 → Gt c.Tc (AtAcq c) 1 None g' w) ∧ (v ≠ 0 → Gt c.Tc (AtW2 c v) 1 None g' w)
def Comes (O F : Nat → Prop) (w : World) : Prop := ∀ b, F b → b < w.heap.size ∧ ¬ c.Cold b ∧ ¬ c.Sb b ∧ ¬ O b
def AtRecv (rs : List Nat) : Stp := fun d O g w => g.status = .running ∧ d = 0 ∧ ∃ z, stepG c.P true g w = .comm (core g) #[rcase c.C z] true (.recv true) w #[] ∧
  (∀ k v F w1, k < c.N → k ∉ rs → Rely c.Cold c.Liv O w w1 → c.Item k v F w1 → Comes c O F w1 → c.Mp (rs ++ [k]) (fun b => O b ∨ F b) (Conc.served (core g) (Conc.recvd true v true)) w1) ∧
  (∀ w1, Rely c.Cold c.Liv O w w1 → c.Fin rs O (Conc.served (core g) (Conc.recvd true z false)) w1)
def AtGo (child : Goroutine → World → Prop) (Next : (Nat → Prop) → Goroutine → World → Prop) : Stp := fun d O g w => g.status = .running ∧ d = 0 ∧ ∃ g' ch, stepG c.P true g w = .spawn g' ch w #[] ∧ ch.status = .running ∧ child ch w ∧ Next O g' w
def AtAddS (Next : Stp) : Stp := fun d O g w => g.status = .running ∧ d = 1 ∧ ∀ v : Nat, v < 2147483647 → WgAt c.ty c.Wg w (v * KK) 0 →
  ∃ g', stepG c.P true g w = .go g' (w.setCell (stA c.Wg) (.int .u64 ((v + 1 : Nat) * KK))) #[rd (stA c.Wg), wr (stA c.Wg)] ∧ Gt c.Tm Next 1 O g' (w.setCell (stA c.Wg) (.int .u64 ((v + 1 : Nat) * KK)))
def Starts : Nat → (Nat → Prop) → Goroutine → World → Prop
  | 0, O, g, w => Gt c.Tm (AtGo c c.ChC (c.Mp [])) 0 O g w
  | r + 1, O, g, w => Gt c.Tm (AtAddS c (AtGo c c.Lp (Starts r))) 0 O g w
inductive Stage where
  | sp (r : Nat) | go (r : Nat) | gc | rv (rs : List Nat) | pk (rs : List Nat)
  | L | S (k : Nat) | K (k : Nat) | R | D | D2 | D3 | D4
  | W1 | W2 (v : Nat) | W3 | B3 | W4 | AQ | CL
  | Q
def chain : Nat → Rk
  | 0 => .leaf
  | q + 1 => .node fun _ => chain q
def Ok : Stage → Rk → Nat → (Nat → Prop) → Goroutine → World → Prop
  | .sp r, k, d, O, g, w => Gk c.Tm (AtAddS c (AtGo c c.Lp (Starts c r))) k d O g w
  | .go r, k, d, O, g, w => Gk c.Tm (AtGo c c.Lp (Starts c r)) k d O g w
  | .gc, k, d, O, g, w => Gk c.Tm (AtGo c c.ChC (c.Mp [])) k d O g w
  | .rv rs, k, d, O, g, w => Gk c.Tr (AtRecv c rs) k d O g w
  | .pk rs, k, d, O, g, w => k = .leaf ∧ ∃ g0 z, (∀ w1, Rely c.Cold c.Liv O w w1 → AtRecv c rs d O g0 w1) ∧ g = parked (core g0) #[rcase c.C z] (.recv true) ∧ ∃ w0, stepG c.P true g0 w0 = .comm (core g0) #[rcase c.C z] true (.recv true) w0 #[]
  | .L, k, d, O, g, w => Gk c.Tw (AtFetch c) k d O g w
  | .S n, k, d, O, g, w => Gk c.Tw (AtSend c n) k d O g w
  | .K n, k, d, O, g, w => k = .leaf ∧ d = 0 ∧ ∃ g0 z v, g = parked (core g0) #[scase c.C v z] .send ∧ (∀ w1, Rely c.Cold c.Liv O w w1 → c.Item n v O w1) ∧ ∀ w1, Rely c.Cold c.Liv None w w1 → c.Lp (Conc.served (core g0) undef) w1
  | .R, k, d, O, g, w => Gk c.Tw (AtRel c) k d O g w
  | .D, k, d, O, g, w => Gk c.T0 (AtAdd c) k d O g w ∧ ∀ b, ¬ O b
  | .D2, k, d, O, g, w => Gk c.T0 (AtLoad2 c) k d O g w ∧ ∀ b, ¬ O b
  | .D3, k, d, O, g, w => Gk c.T0 (AtStore0 c) k d O g w ∧ ∀ b, ¬ O b
  | .D4, k, d, O, g, w => Gk c.T0 (AtSemrel c) k d O g w ∧ ∀ b, ¬ O b
  | .W1, k, d, O, g, w => Gk c.Tc (AtW1 c) k d O g w
  | .W2 v, k, d, O, g, w => Gk c.Tc (AtW2 c v) k d O g w ∧ 1 ≤ v
  | .W3, k, d, O, g, w => Gk c.Tc (AtW3 c) k d O g w
  | .B3, k, d, O, g, w => k = .leaf ∧ ∃ g0, (∀ w1, Rely c.Cold c.Liv O w w1 → AtW3 c d O g0 w1) ∧ g = { g0 with status := .blocked }
  | .W4, k, d, O, g, w => Gk c.Tc (AtW4 c) k d O g w
  | .AQ, k, d, O, g, w => Gk c.Tc (AtAcq c) k d O g w
  | .CL, k, d, O, g, w => Gk c.Tc (AtClose c) k d O g w
  | .Q, k, d, O, g, w => ∃ q, k = chain q ∧ QuitsD c.P q d g
end
end Pool
end Go.Proofs.YtdkpbobglogmoaaGreat
