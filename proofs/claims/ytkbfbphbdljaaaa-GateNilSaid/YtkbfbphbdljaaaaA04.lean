/- Texts of one proof, joined: each says what it proves. Every premise stands in the statements. -/
import Derived.Test.YtkbfbphbdljaaaaA03
import GoSem.Dispatch
/- Cov of the operations that plain code is made of, one by one. Every premise stands in the statements. -/
set_option linter.unusedSimpArgs false
set_option linter.unusedVariables false
namespace Go.Tre
variable [Base]
/-- Whatever. -/
abbrev T {α : Type} : α → Prop := fun _ => True
section
variable {P : Program} {q : Bool}
theorem Cov.haltS {α : Type} {L : α → Prop} {s : String} : Cov P q L (Sem.halt (.stuck s) : Sem α) (Sem.halt (.stuck s)) := Cov.halt trivial
theorem Cov.haltU {α : Type} {L : α → Prop} {u : Unsupported} : Cov P q L (Sem.halt (.unsupported u) : Sem α) (Sem.halt (.unsupported u)) := Cov.halt trivial
theorem Cov.haltP {α : Type} {L : α → Prop} {v : Value} : Cov P q L (Sem.halt (.panic v) : Sem α) (Sem.halt (.panic v)) := Cov.halt trivial
theorem Cov.stuck {α : Type} {L : α → Prop} {s : String} : Cov P q L (Go.stuck s : Sem α) (Go.stuck s) := Cov.halt trivial
theorem Cov.unsup {α : Type} {L : α → Prop} {u : Unsupported} : Cov P q L (Go.unsupported u : Sem α) (Go.unsupported u) := Cov.halt trivial
theorem Cov.goPanic {α : Type} {L : α → Prop} {v : Value} : Cov P q L (Go.goPanic v : Sem α) (Go.goPanic v) := Cov.halt trivial
theorem covList {β γ : Type} (l : List β) (f : β → γ → Sem (ForInStep γ)) (h : ∀ x r, Cov P q T (f x r) (f x r)) : ∀ init : γ, Cov P q T (forIn l init f) (forIn l init f) := by
  induction l with
  | nil => intro init; simp only [List.forIn_nil]; exact Cov.pure trivial
  | cons x l ih =>
    intro init
    simp only [List.forIn_cons]
    refine Cov.bind (h x init) fun s _ => ?_
    cases s with
    | done b => exact Cov.pure trivial
    | yield b => exact ih b
theorem covArray {β γ : Type} (l : Array β) (f : β → γ → Sem (ForInStep γ)) (h : ∀ x r, Cov P q T (f x r) (f x r)) (init : γ) : Cov P q T (forIn l init f) (forIn l init f) := by
  rw [← Array.forIn_toList]; exact covList _ f h init
theorem covRange {γ : Type} (n : Nat) (f : Nat → γ → Sem (ForInStep γ)) (h : ∀ x r, Cov P q T (f x r) (f x r)) (init : γ) : Cov P q T (forIn [0:n] init f) (forIn [0:n] init f) := by
  rw [Std.Legacy.Range.forIn_eq_forIn_range']; exact covList _ f h init
theorem covListM {β γ : Type} (l : List β) (f : β → Sem γ) (h : ∀ x, Cov P q T (f x) (f x)) : Cov P q T (l.mapM f) (l.mapM f) := by
  induction l with
  | nil => simp only [List.mapM_nil]; exact Cov.pure trivial
  | cons x l ih => simp only [List.mapM_cons]; exact Cov.bind (h x) fun _ _ => Cov.bind ih fun _ _ => Cov.pure trivial
theorem covArrayM {β γ : Type} (l : Array β) (f : β → Sem γ) (h : ∀ x, Cov P q T (f x) (f x)) : Cov P q T (l.mapM f) (l.mapM f) := by
  rw [Array.mapM_eq_mapM_toList]; exact Cov.map (covListM _ f h) fun _ _ => trivial
theorem covFoldM {β γ : Type} (l : List β) (f : γ → β → Sem γ) (h : ∀ x r, Cov P q T (f r x) (f r x)) : ∀ init : γ, Cov P q T (l.foldlM f init) (l.foldlM f init) := by
  induction l with
  | nil => intro init; exact Cov.pure trivial
  | cons x l ih => intro init; simp only [List.foldlM_cons]; exact Cov.bind (h x init) fun _ _ => ih _

theorem c_info (t : TypeId) : Cov P q T (Go.typeInfo t) (Go.typeInfo t) := by
  unfold Go.typeInfo
  repeat' (first | with_reducible exact Cov.pure trivial | with_reducible exact Cov.pure' trivial | with_reducible exact Cov.haltS | with_reducible exact Cov.haltU | with_reducible exact Cov.haltP | with_reducible exact Cov.stuck | with_reducible exact Cov.unsup | with_reducible exact Cov.goPanic | with_reducible exact Cov.program trivial | (with_reducible refine Cov.bind (L := T) ?_ (fun _ _ => ?_)) | split | (dsimp only))

theorem c_under (t : TypeId) : Cov P q T (Go.underlying t) (Go.underlying t) := by
  unfold Go.underlying
  repeat' (first | with_reducible exact Cov.pure trivial | with_reducible exact Cov.pure' trivial | with_reducible exact Cov.haltS | with_reducible exact Cov.haltU | with_reducible exact Cov.haltP | with_reducible exact Cov.stuck | with_reducible exact Cov.unsup | with_reducible exact Cov.goPanic | with_reducible exact Cov.program trivial | (with_reducible refine Cov.bind (L := T) ?_ (fun _ _ => ?_)) | split | (dsimp only))

theorem c_zero (t : TypeId) : Cov P q T (Go.zeroValue t) (Go.zeroValue t) := by
  unfold Go.zeroValue Go.unsupported
  repeat' (first | with_reducible exact Cov.pure trivial | with_reducible exact Cov.pure' trivial | with_reducible exact Cov.haltS | with_reducible exact Cov.haltU | with_reducible exact Cov.haltP | with_reducible exact Cov.stuck | with_reducible exact Cov.unsup | with_reducible exact Cov.goPanic | with_reducible exact c_info _ | (with_reducible refine Cov.bind (L := T) ?_ (fun _ _ => ?_)) | split | (dsimp only))

theorem c_size (t : TypeId) : Cov P q T (Go.sizeOf t) (Go.sizeOf t) := by
  unfold Go.sizeOf
  repeat' (first | with_reducible exact Cov.pure trivial | with_reducible exact Cov.pure' trivial | with_reducible exact Cov.haltS | with_reducible exact Cov.haltU | with_reducible exact Cov.haltP | with_reducible exact Cov.stuck | with_reducible exact Cov.unsup | with_reducible exact Cov.goPanic | with_reducible exact c_info _ | (with_reducible refine Cov.bind (L := T) ?_ (fun _ _ => ?_)) | split | (dsimp only))

theorem c_isAgg (t : TypeId) : Cov P q T (Go.isAgg t) (Go.isAgg t) := by
  unfold Go.isAgg
  repeat' (first | with_reducible exact Cov.pure trivial | with_reducible exact Cov.pure' trivial | with_reducible exact Cov.haltS | with_reducible exact Cov.haltU | with_reducible exact Cov.haltP | with_reducible exact Cov.stuck | with_reducible exact Cov.unsup | with_reducible exact Cov.goPanic | with_reducible exact c_under _ | (with_reducible refine Cov.bind (L := T) ?_ (fun _ _ => ?_)) | split | (dsimp only))

theorem c_str (t : TypeId) : Cov P q T (Go.typeStr t) (Go.typeStr t) := by
  unfold Go.typeStr Go.unsupported
  repeat' (first | with_reducible exact Cov.pure trivial | with_reducible exact Cov.pure' trivial | with_reducible exact Cov.haltS | with_reducible exact Cov.haltU | with_reducible exact Cov.haltP | with_reducible exact Cov.stuck | with_reducible exact Cov.unsup | with_reducible exact Cov.goPanic | with_reducible exact c_info _ | (with_reducible refine Cov.bind (L := T) ?_ (fun _ _ => ?_)) | split | (dsimp only))

theorem c_loadFrom (a : Addr) : ∀ (n i : Nat) (acc : Array Value), Cov P q T (Go.loadCellsFrom a i n acc) (Go.loadCellsFrom a i n acc)
  | 0, i, acc => by unfold Go.loadCellsFrom; exact Cov.pure trivial
  | n + 1, i, acc => by
    unfold Go.loadCellsFrom
    exact Cov.bind (Cov.load (M := T) fun _ => trivial) fun _ _ => c_loadFrom a n _ _
theorem c_loadCells (a : Addr) (n : Nat) : Cov P q T (Go.loadCells a n) (Go.loadCells a n) := c_loadFrom a n 0 #[]
theorem c_storeCells (a : Addr) : ∀ (vs : List Value) (i : Nat), Cov P false T (Go.storeCells a vs i) (Go.storeCells a vs i)
  | [], i => by unfold Go.storeCells; exact Cov.pure trivial
  | v :: rest, i => by
    unfold Go.storeCells
    exact Cov.bind (Cov.store (M := T) trivial) fun _ _ => c_storeCells a rest _

theorem c_loadVar (t : TypeId) (a : Addr) : Cov P q T (Go.loadVar t a) (Go.loadVar t a) := by
  unfold Go.loadVar
  repeat' (first | with_reducible exact Cov.pure trivial | with_reducible exact Cov.pure' trivial | with_reducible exact Cov.haltS | with_reducible exact Cov.haltU | with_reducible exact Cov.haltP | with_reducible exact Cov.stuck | with_reducible exact Cov.unsup | with_reducible exact Cov.goPanic | with_reducible exact c_isAgg _ | with_reducible exact c_size _ | with_reducible exact c_loadCells _ _ | with_reducible exact Cov.load (fun _ => trivial) | (with_reducible refine Cov.bind (L := T) ?_ (fun _ _ => ?_)) | split | (dsimp only))

theorem c_storeVar (t : TypeId) (a : Addr) (v : Value) : Cov P false T (Go.storeVar t a v) (Go.storeVar t a v) := by
  unfold Go.storeVar Go.stuck
  repeat' (first | with_reducible exact Cov.pure trivial | with_reducible exact Cov.pure' trivial | with_reducible exact Cov.haltS | with_reducible exact Cov.haltU | with_reducible exact Cov.haltP | with_reducible exact Cov.stuck | with_reducible exact Cov.unsup | with_reducible exact Cov.goPanic | with_reducible exact c_size _ | with_reducible exact c_storeCells _ _ _ | (with_reducible refine Cov.bind (L := T) ?_ (fun _ _ => ?_)) | split | (dsimp only))

theorem c_newRow (t : TypeId) (c : Array Value) : Cov P false T (Go.newRow t c) (Go.newRow t c) := by
  unfold Go.newRow
  repeat' (first | with_reducible exact Cov.pure trivial | with_reducible exact Cov.pure' trivial | with_reducible exact Cov.haltS | with_reducible exact Cov.haltU | with_reducible exact Cov.haltP | with_reducible exact Cov.stuck | with_reducible exact Cov.unsup | with_reducible exact Cov.goPanic | with_reducible exact Cov.newCells (fun _ => trivial) | with_reducible exact Cov.newNumber (fun _ => trivial) | with_reducible exact Cov.newMap (fun _ => trivial) | with_reducible exact Cov.newChan (fun _ => trivial) | (with_reducible refine Cov.bind (L := T) ?_ (fun _ _ => ?_)) | split | (dsimp only))

theorem c_newVar (t : TypeId) (v : Value) : Cov P false T (Go.newVar t v) (Go.newVar t v) := by
  unfold Go.newVar
  repeat' (first | with_reducible exact Cov.pure trivial | with_reducible exact Cov.pure' trivial | with_reducible exact Cov.haltS | with_reducible exact Cov.haltU | with_reducible exact Cov.haltP | with_reducible exact Cov.stuck | with_reducible exact Cov.unsup | with_reducible exact Cov.goPanic | with_reducible exact c_newRow _ _ | (with_reducible refine Cov.bind (L := T) ?_ (fun _ _ => ?_)) | split | (dsimp only))

theorem c_elemOf (t : TypeId) : Cov P q T (Go.elemOf t) (Go.elemOf t) := by
  unfold Go.elemOf Go.stuck
  repeat' (first | with_reducible exact Cov.pure trivial | with_reducible exact Cov.pure' trivial | with_reducible exact Cov.haltS | with_reducible exact Cov.haltU | with_reducible exact Cov.haltP | with_reducible exact Cov.stuck | with_reducible exact Cov.unsup | with_reducible exact Cov.goPanic | with_reducible exact c_under _ | (with_reducible refine Cov.bind (L := T) ?_ (fun _ _ => ?_)) | split | (dsimp only))

theorem c_part (t : TypeId) (cs : Array Value) (o : Nat) : Cov P q T (Go.part t cs o) (Go.part t cs o) := by
  unfold Go.part Go.stuck
  repeat' (first | with_reducible exact Cov.pure trivial | with_reducible exact Cov.pure' trivial | with_reducible exact Cov.haltS | with_reducible exact Cov.haltU | with_reducible exact Cov.haltP | with_reducible exact Cov.stuck | with_reducible exact Cov.unsup | with_reducible exact Cov.goPanic | with_reducible exact c_isAgg _ | with_reducible exact c_size _ | (with_reducible refine Cov.bind (L := T) ?_ (fun _ _ => ?_)) | split | (dsimp only))

theorem c_intOf (v : Value) : Cov P q T (Go.asIntOf v) (Go.asIntOf v) := by
  unfold Go.asIntOf Go.stuck Go.unsupported
  repeat' (first | with_reducible exact Cov.pure trivial | with_reducible exact Cov.pure' trivial | with_reducible exact Cov.haltS | with_reducible exact Cov.haltU | with_reducible exact Cov.haltP | with_reducible exact Cov.stuck | with_reducible exact Cov.unsup | with_reducible exact Cov.goPanic | (with_reducible refine Cov.bind (L := T) ?_ (fun _ _ => ?_)) | split | (dsimp only))

theorem c_int (v : Value) : Cov P q T (Go.asInt v) (Go.asInt v) := by
  unfold Go.asInt
  repeat' (first | with_reducible exact Cov.pure trivial | with_reducible exact Cov.pure' trivial | with_reducible exact Cov.haltS | with_reducible exact Cov.haltU | with_reducible exact Cov.haltP | with_reducible exact Cov.stuck | with_reducible exact Cov.unsup | with_reducible exact Cov.goPanic | with_reducible exact c_intOf _ | (with_reducible refine Cov.bind (L := T) ?_ (fun _ _ => ?_)) | split | (dsimp only))

theorem c_bool (v : Value) : Cov P q T (Go.asBool v) (Go.asBool v) := by
  unfold Go.asBool Go.stuck
  repeat' (first | with_reducible exact Cov.pure trivial | with_reducible exact Cov.pure' trivial | with_reducible exact Cov.haltS | with_reducible exact Cov.haltU | with_reducible exact Cov.haltP | with_reducible exact Cov.stuck | with_reducible exact Cov.unsup | with_reducible exact Cov.goPanic | (with_reducible refine Cov.bind (L := T) ?_ (fun _ _ => ?_)) | split | (dsimp only))

theorem c_asAgg (v : Value) : Cov P q T (Go.asAgg v) (Go.asAgg v) := by
  unfold Go.asAgg Go.stuck
  repeat' (first | with_reducible exact Cov.pure trivial | with_reducible exact Cov.pure' trivial | with_reducible exact Cov.haltS | with_reducible exact Cov.haltU | with_reducible exact Cov.haltP | with_reducible exact Cov.stuck | with_reducible exact Cov.unsup | with_reducible exact Cov.goPanic | (with_reducible refine Cov.bind (L := T) ?_ (fun _ _ => ?_)) | split | (dsimp only))

theorem c_sure (v : Value) : Cov P q T (Go.Instr.sureAddr v) (Go.Instr.sureAddr v) := by
  unfold Go.Instr.sureAddr Go.stuck
  repeat' (first | with_reducible exact Cov.pure trivial | with_reducible exact Cov.pure' trivial | with_reducible exact Cov.haltS | with_reducible exact Cov.haltU | with_reducible exact Cov.haltP | with_reducible exact Cov.stuck | with_reducible exact Cov.unsup | with_reducible exact Cov.goPanic | (with_reducible refine Cov.bind (L := T) ?_ (fun _ _ => ?_)) | split | (dsimp only))

theorem c_rtPanic {α : Type} {L : α → Prop} (e : RuntimeError) : Cov P false L (Go.runtimePanic e : Sem α) (Go.runtimePanic e) := by
  unfold Go.runtimePanic Go.goPanic
  refine Cov.bind (L := T) (Cov.program trivial) (fun _ _ => ?_)
  cases e <;> simp only [] <;> (repeat' (first | exact Cov.halt trivial | exact c_newVar _ _ | exact c_elemOf _ | (refine Cov.bind (L := T) ?_ (fun _ _ => ?_))))
theorem c_bounds {α : Type} (k : IntKind) (x y : Int) (c : BoundsCode) : Cov P false T (Go.boundsPanic k x y c : Sem α) (Go.boundsPanic k x y c) := by
  unfold Go.boundsPanic
  dsimp only
  split
  · exact Cov.bind (L := T) (Cov.map (Cov.choose (M := T) fun _ => trivial) fun _ _ => trivial) fun _ _ => c_rtPanic _
  · exact Cov.bind (L := T) (Cov.pure trivial) fun _ _ => c_rtPanic _

theorem c_asAddr (v : Value) : Cov P false T (Go.asAddr v) (Go.asAddr v) := by
  unfold Go.asAddr Go.stuck
  repeat' (first | with_reducible exact Cov.pure trivial | with_reducible exact Cov.pure' trivial | with_reducible exact Cov.haltS | with_reducible exact Cov.haltU | with_reducible exact Cov.haltP | with_reducible exact Cov.stuck | with_reducible exact Cov.unsup | with_reducible exact Cov.goPanic | with_reducible exact c_rtPanic _ | (with_reducible refine Cov.bind (L := T) ?_ (fun _ _ => ?_)) | split | (dsimp only))

theorem c_alloc (t : TypeId) (h : Bool) (o : Value) : Cov P false T (Go.Instr.alloc t h o) (Go.Instr.alloc t h o) := by
  unfold Go.Instr.alloc
  repeat' (first | with_reducible exact Cov.pure trivial | with_reducible exact Cov.pure' trivial | with_reducible exact Cov.haltS | with_reducible exact Cov.haltU | with_reducible exact Cov.haltP | with_reducible exact Cov.stuck | with_reducible exact Cov.unsup | with_reducible exact Cov.goPanic | with_reducible exact c_zero _ | with_reducible exact c_storeVar _ _ _ | with_reducible exact c_newVar _ _ | (with_reducible refine Cov.bind (L := T) ?_ (fun _ _ => ?_)) | split | (dsimp only))

theorem c_box (t : TypeId) (v : Value) : Cov P false T (Go.Instr.box t v) (Go.Instr.box t v) := by
  unfold Go.Instr.box
  repeat' (first | with_reducible exact Cov.pure trivial | with_reducible exact Cov.pure' trivial | with_reducible exact Cov.haltS | with_reducible exact Cov.haltU | with_reducible exact Cov.haltP | with_reducible exact Cov.stuck | with_reducible exact Cov.unsup | with_reducible exact Cov.goPanic | with_reducible exact c_newVar _ _ | (with_reducible refine Cov.bind (L := T) ?_ (fun _ _ => ?_)) | split | (dsimp only))

theorem c_loadAt (t : TypeId) (v : Value) : Cov P q T (Go.Instr.loadAt t v) (Go.Instr.loadAt t v) := by
  unfold Go.Instr.loadAt
  repeat' (first | with_reducible exact Cov.pure trivial | with_reducible exact Cov.pure' trivial | with_reducible exact Cov.haltS | with_reducible exact Cov.haltU | with_reducible exact Cov.haltP | with_reducible exact Cov.stuck | with_reducible exact Cov.unsup | with_reducible exact Cov.goPanic | with_reducible exact c_sure _ | with_reducible exact c_loadVar _ _ | (with_reducible refine Cov.bind (L := T) ?_ (fun _ _ => ?_)) | split | (dsimp only))

theorem c_storeAt (t : TypeId) (v x : Value) : Cov P false T (Go.Instr.storeAt t v x) (Go.Instr.storeAt t v x) := by
  unfold Go.Instr.storeAt
  repeat' (first | with_reducible exact Cov.pure trivial | with_reducible exact Cov.pure' trivial | with_reducible exact Cov.haltS | with_reducible exact Cov.haltU | with_reducible exact Cov.haltP | with_reducible exact Cov.stuck | with_reducible exact Cov.unsup | with_reducible exact Cov.goPanic | with_reducible exact c_sure _ | with_reducible exact c_storeVar _ _ _ | (with_reducible refine Cov.bind (L := T) ?_ (fun _ _ => ?_)) | split | (dsimp only))

theorem c_build (t : TypeId) (ps : Array (Nat × Value)) : Cov P q T (Go.Instr.build t ps) (Go.Instr.build t ps) := by
  unfold Go.Instr.build Go.stuck
  repeat' (first | with_reducible exact Cov.pure trivial | with_reducible exact Cov.pure' trivial | with_reducible exact Cov.haltS | with_reducible exact Cov.haltU | with_reducible exact Cov.haltP | with_reducible exact Cov.stuck | with_reducible exact Cov.unsup | with_reducible exact Cov.goPanic | with_reducible exact c_zero _ | with_reducible exact c_under _ | with_reducible exact c_size _ | (refine covArrayM _ _ (fun _ => ?_)) | (with_reducible refine Cov.bind (L := T) ?_ (fun _ _ => ?_)) | split | (dsimp only))

theorem c_buildSlice (t : TypeId) (n : Nat) (ps : Array (Nat × Value)) : Cov P false T (Go.Instr.buildSlice t n ps) (Go.Instr.buildSlice t n ps) := by
  unfold Go.Instr.buildSlice Go.stuck Go.unsupported
  repeat' (first | with_reducible exact Cov.pure trivial | with_reducible exact Cov.pure' trivial | with_reducible exact Cov.haltS | with_reducible exact Cov.haltU | with_reducible exact Cov.haltP | with_reducible exact Cov.stuck | with_reducible exact Cov.unsup | with_reducible exact Cov.goPanic | with_reducible exact c_zero _ | with_reducible exact c_under _ | with_reducible exact c_size _ | with_reducible exact c_newRow _ _ | (with_reducible refine Cov.bind (L := T) ?_ (fun _ _ => ?_)) | split | (dsimp only))

theorem c_makeInterface (t : TypeId) (v : Value) : Cov P q T (Go.Instr.makeInterface t v) (Go.Instr.makeInterface t v) := by
  unfold Go.Instr.makeInterface Go.stuck
  repeat' (first | with_reducible exact Cov.pure trivial | with_reducible exact Cov.pure' trivial | with_reducible exact Cov.haltS | with_reducible exact Cov.haltU | with_reducible exact Cov.haltP | with_reducible exact Cov.stuck | with_reducible exact Cov.unsup | with_reducible exact Cov.goPanic | with_reducible exact c_under _ | (with_reducible refine Cov.bind (L := T) ?_ (fun _ _ => ?_)) | split | (dsimp only))

theorem c_makeMap (t : TypeId) (r : Option Value) : Cov P false T (Go.Instr.makeMap t r) (Go.Instr.makeMap t r) := by
  unfold Go.Instr.makeMap Go.stuck
  repeat' (first | with_reducible exact Cov.pure trivial | with_reducible exact Cov.pure' trivial | with_reducible exact Cov.haltS | with_reducible exact Cov.haltU | with_reducible exact Cov.haltP | with_reducible exact Cov.stuck | with_reducible exact Cov.unsup | with_reducible exact Cov.goPanic | with_reducible exact c_under _ | with_reducible exact c_int _ | with_reducible exact Cov.newCells (fun _ => trivial) | with_reducible exact Cov.newNumber (fun _ => trivial) | with_reducible exact Cov.newMap (fun _ => trivial) | with_reducible exact Cov.newChan (fun _ => trivial) | (with_reducible refine Cov.bind (L := T) ?_ (fun _ _ => ?_)) | split | (dsimp only))

theorem c_makeChan (t : TypeId) (v : Value) : Cov P false T (Go.Instr.makeChan t v) (Go.Instr.makeChan t v) := by
  unfold Go.Instr.makeChan Go.stuck
  repeat' (first | with_reducible exact Cov.pure trivial | with_reducible exact Cov.pure' trivial | with_reducible exact Cov.haltS | with_reducible exact Cov.haltU | with_reducible exact Cov.haltP | with_reducible exact Cov.stuck | with_reducible exact Cov.unsup | with_reducible exact Cov.goPanic | with_reducible exact c_under _ | with_reducible exact c_int _ | with_reducible exact c_info _ | with_reducible exact Cov.newCells (fun _ => trivial) | with_reducible exact Cov.newNumber (fun _ => trivial) | with_reducible exact Cov.newMap (fun _ => trivial) | with_reducible exact Cov.newChan (fun _ => trivial) | with_reducible exact c_rtPanic _ | (with_reducible refine Cov.bind (L := T) ?_ (fun _ _ => ?_)) | split | (dsimp only))

theorem c_askRoom (n : Nat) : Cov P q T (Go.askRoom n) (Go.askRoom n) := by
  unfold Go.askRoom
  split
  · exact Cov.markRoom trivial
  · exact Cov.pure trivial

theorem c_makeSlice (t : TypeId) (l c : Value) : Cov P false T (Go.Instr.makeSlice t l c) (Go.Instr.makeSlice t l c) := by
  unfold Go.Instr.makeSlice Go.stuck
  repeat' (first | with_reducible exact Cov.pure trivial | with_reducible exact Cov.pure' trivial | with_reducible exact Cov.haltS | with_reducible exact Cov.haltU | with_reducible exact Cov.haltP | with_reducible exact Cov.stuck | with_reducible exact Cov.unsup | with_reducible exact Cov.goPanic | with_reducible exact c_under _ | with_reducible exact c_int _ | with_reducible exact c_info _ | with_reducible exact c_size _ | with_reducible exact c_zero _ | with_reducible exact c_newRow _ _ | with_reducible exact c_rtPanic _ | with_reducible exact c_askRoom _ | with_reducible exact Cov.choose (fun _ => trivial) | (with_reducible refine Cov.bind (L := T) ?_ (fun _ _ => ?_)) | split | (dsimp only))

theorem c_sliceBound (x : Value) (y : Nat) (c : BoundsCode) : Cov P false T (Go.Instr.sliceBound x y c) (Go.Instr.sliceBound x y c) := by
  unfold Go.Instr.sliceBound
  repeat' (first | with_reducible exact Cov.pure trivial | with_reducible exact Cov.pure' trivial | with_reducible exact Cov.haltS | with_reducible exact Cov.haltU | with_reducible exact Cov.haltP | with_reducible exact Cov.stuck | with_reducible exact Cov.unsup | with_reducible exact Cov.goPanic | with_reducible exact c_intOf _ | with_reducible exact c_bounds _ _ _ _ | (with_reducible refine Cov.bind (L := T) ?_ (fun _ _ => ?_)) | split | (dsimp only))

theorem c_sliceBounds (b : Bool) (l c : Nat) (x y z : Option Value) : Cov P false T (Go.Instr.sliceBounds b l c x y z) (Go.Instr.sliceBounds b l c x y z) := by
  unfold Go.Instr.sliceBounds Go.stuck
  repeat' (first | with_reducible exact Cov.pure trivial | with_reducible exact Cov.pure' trivial | with_reducible exact Cov.haltS | with_reducible exact Cov.haltU | with_reducible exact Cov.haltP | with_reducible exact Cov.stuck | with_reducible exact Cov.unsup | with_reducible exact Cov.goPanic | with_reducible exact c_sliceBound _ _ _ | (with_reducible refine Cov.bind (L := T) ?_ (fun _ _ => ?_)) | split | (dsimp only))

theorem c_slice (t : TypeId) (v : Value) (x y z : Option Value) : Cov P false T (Go.Instr.slice t v x y z) (Go.Instr.slice t v x y z) := by
  unfold Go.Instr.slice Go.stuck
  repeat' (first | with_reducible exact Cov.pure trivial | with_reducible exact Cov.pure' trivial | with_reducible exact Cov.haltS | with_reducible exact Cov.haltU | with_reducible exact Cov.haltP | with_reducible exact Cov.stuck | with_reducible exact Cov.unsup | with_reducible exact Cov.goPanic | with_reducible exact c_under _ | with_reducible exact c_sliceBounds _ _ _ _ _ _ | with_reducible exact c_size _ | with_reducible exact c_asAddr _ | (with_reducible refine Cov.bind (L := T) ?_ (fun _ _ => ?_)) | split | (dsimp only))

theorem c_sliceAt (t : TypeId) (v : Value) (x y z : Option Value) : Cov P false T (Go.Instr.sliceAt t v x y z) (Go.Instr.sliceAt t v x y z) := by
  unfold Go.Instr.sliceAt
  repeat' (first | with_reducible exact Cov.pure trivial | with_reducible exact Cov.pure' trivial | with_reducible exact Cov.haltS | with_reducible exact Cov.haltU | with_reducible exact Cov.haltP | with_reducible exact Cov.stuck | with_reducible exact Cov.unsup | with_reducible exact Cov.goPanic | with_reducible exact c_under _ | with_reducible exact c_sliceBounds _ _ _ _ _ _ | with_reducible exact c_size _ | with_reducible exact c_sure _ | with_reducible exact c_slice _ _ _ _ _ | (with_reducible refine Cov.bind (L := T) ?_ (fun _ _ => ?_)) | split | (dsimp only))

theorem c_field (t : TypeId) (v : Value) (f : Nat) : Cov P q T (Go.Instr.field t v f) (Go.Instr.field t v f) := by
  unfold Go.Instr.field Go.stuck
  repeat' (first | with_reducible exact Cov.pure trivial | with_reducible exact Cov.pure' trivial | with_reducible exact Cov.haltS | with_reducible exact Cov.haltU | with_reducible exact Cov.haltP | with_reducible exact Cov.stuck | with_reducible exact Cov.unsup | with_reducible exact Cov.goPanic | with_reducible exact c_under _ | with_reducible exact c_part _ _ _ | with_reducible exact c_asAgg _ | (with_reducible refine Cov.bind (L := T) ?_ (fun _ _ => ?_)) | split | (dsimp only))

theorem c_indexAt (t : TypeId) (x i : Value) : Cov P false T (Go.Instr.indexAt t x i) (Go.Instr.indexAt t x i) := by
  unfold Go.Instr.indexAt Go.stuck Go.unsupported
  repeat' (first | with_reducible exact Cov.pure trivial | with_reducible exact Cov.pure' trivial | with_reducible exact Cov.haltS | with_reducible exact Cov.haltU | with_reducible exact Cov.haltP | with_reducible exact Cov.stuck | with_reducible exact Cov.unsup | with_reducible exact Cov.goPanic | with_reducible exact c_intOf _ | with_reducible exact c_under _ | with_reducible exact c_sure _ | with_reducible exact c_size _ | with_reducible exact c_bounds _ _ _ _ | (with_reducible refine Cov.bind (L := T) ?_ (fun _ _ => ?_)) | split | (dsimp only))

theorem c_index (t : TypeId) (x i : Value) : Cov P false T (Go.Instr.index t x i) (Go.Instr.index t x i) := by
  unfold Go.Instr.index Go.stuck
  repeat' (first | with_reducible exact Cov.pure trivial | with_reducible exact Cov.pure' trivial | with_reducible exact Cov.haltS | with_reducible exact Cov.haltU | with_reducible exact Cov.haltP | with_reducible exact Cov.stuck | with_reducible exact Cov.unsup | with_reducible exact Cov.goPanic | with_reducible exact c_intOf _ | with_reducible exact c_under _ | with_reducible exact c_size _ | with_reducible exact c_part _ _ _ | with_reducible exact c_bounds _ _ _ _ | (with_reducible refine Cov.bind (L := T) ?_ (fun _ _ => ?_)) | split | (dsimp only))

theorem c_extract (x : Value) (i : Nat) : Cov P q T (Go.Instr.extract x i) (Go.Instr.extract x i) := by
  unfold Go.Instr.extract Go.stuck
  repeat' (first | with_reducible exact Cov.pure trivial | with_reducible exact Cov.pure' trivial | with_reducible exact Cov.haltS | with_reducible exact Cov.haltU | with_reducible exact Cov.haltP | with_reducible exact Cov.stuck | with_reducible exact Cov.unsup | with_reducible exact Cov.goPanic | (with_reducible refine Cov.bind (L := T) ?_ (fun _ _ => ?_)) | split | (dsimp only))

theorem c_len (ts : Array TypeId) (t : TypeId) (vs : Array Value) : Cov P q T (Go.Builtin.len_ ts t vs) (Go.Builtin.len_ ts t vs) := by
  unfold Go.Builtin.len_ Go.stuck
  repeat' (first | with_reducible exact Cov.pure trivial | with_reducible exact Cov.pure' trivial | with_reducible exact Cov.haltS | with_reducible exact Cov.haltU | with_reducible exact Cov.haltP | with_reducible exact Cov.stuck | with_reducible exact Cov.unsup | with_reducible exact Cov.goPanic | with_reducible exact c_under _ | with_reducible exact Cov.getObj (fun _ => trivial) | (with_reducible refine Cov.bind (L := T) ?_ (fun _ _ => ?_)) | split | (dsimp only))

theorem c_cap (ts : Array TypeId) (t : TypeId) (vs : Array Value) : Cov P q T (Go.Builtin.cap_ ts t vs) (Go.Builtin.cap_ ts t vs) := by
  unfold Go.Builtin.cap_ Go.stuck
  repeat' (first | with_reducible exact Cov.pure trivial | with_reducible exact Cov.pure' trivial | with_reducible exact Cov.haltS | with_reducible exact Cov.haltU | with_reducible exact Cov.haltP | with_reducible exact Cov.stuck | with_reducible exact Cov.unsup | with_reducible exact Cov.goPanic | with_reducible exact c_under _ | with_reducible exact Cov.getObj (fun _ => trivial) | (with_reducible refine Cov.bind (L := T) ?_ (fun _ _ => ?_)) | split | (dsimp only))

theorem c_lenOf (v : Value) : Cov P q T (Go.Builtin.lenOf v) (Go.Builtin.lenOf v) := by
  unfold Go.Builtin.lenOf Go.stuck
  repeat' (first | with_reducible exact Cov.pure trivial | with_reducible exact Cov.pure' trivial | with_reducible exact Cov.haltS | with_reducible exact Cov.haltU | with_reducible exact Cov.haltP | with_reducible exact Cov.stuck | with_reducible exact Cov.unsup | with_reducible exact Cov.goPanic | (with_reducible refine Cov.bind (L := T) ?_ (fun _ _ => ?_)) | split | (dsimp only))

theorem c_firstCells (s n : Nat) (v : Value) : Cov P q T (Go.Builtin.firstCells s n v) (Go.Builtin.firstCells s n v) := by
  unfold Go.Builtin.firstCells Go.stuck
  repeat' (first | with_reducible exact Cov.pure trivial | with_reducible exact Cov.pure' trivial | with_reducible exact Cov.haltS | with_reducible exact Cov.haltU | with_reducible exact Cov.haltP | with_reducible exact Cov.stuck | with_reducible exact Cov.unsup | with_reducible exact Cov.goPanic | with_reducible exact c_loadCells _ _ | (with_reducible refine Cov.bind (L := T) ?_ (fun _ _ => ?_)) | split | (dsimp only))

theorem c_copy (ts : Array TypeId) (t : TypeId) (vs : Array Value) : Cov P false T (Go.Builtin.copy_ ts t vs) (Go.Builtin.copy_ ts t vs) := by
  unfold Go.Builtin.copy_ Go.stuck
  repeat' (first | with_reducible exact Cov.pure trivial | with_reducible exact Cov.pure' trivial | with_reducible exact Cov.haltS | with_reducible exact Cov.haltU | with_reducible exact Cov.haltP | with_reducible exact Cov.stuck | with_reducible exact Cov.unsup | with_reducible exact Cov.goPanic | with_reducible exact c_under _ | with_reducible exact c_size _ | with_reducible exact c_lenOf _ | with_reducible exact c_firstCells _ _ _ | with_reducible exact c_storeCells _ _ _ | (with_reducible refine Cov.bind (L := T) ?_ (fun _ _ => ?_)) | split | (dsimp only))

end
end Go.Tre

/- Cov of the operations that plain code is made of, on: comparisons, arithmetic, maps, append, atomic accesses. Every premise stands in the statements. -/
set_option linter.unusedSimpArgs false
set_option linter.unusedVariables false
set_option maxHeartbeats 1000000
namespace Go.Tre
variable [Base]
section
variable {P : Program} {q : Bool}

/-- A reading that asks nothing and lists nothing; the ghost may read something else. -/
theorem Cov.read {α β : Type} {L : α → Prop} {rd : Sem β} {f k : β → Sem α} (φ : World → β) (h1 : ∀ w es, rd.runT P w es = (.ok (φ w) w, es)) (h2 : ∀ w τ d, φ (re w τ d) = φ w)
    (h : ∀ w g, Sim w g → Cov P q L (f (φ g)) (k (φ w))) : Cov P q L (rd >>= f) (rd >>= k) := fun w g hs => by
  have r1 : ∀ w, rd.run P w = .ok (φ w) w := fun w => by rw [← Sem.runT_fst P rd w #[], h1]
  obtain ⟨aq, r, hr, hfit⟩ := h w g hs w g hs
  refine ⟨aq, r, fun τ d hτ => ?_, ?_⟩
  · show (rd.bind f).run P _ = _
    rw [Sem.run_bind', r1, h2]
    exact hr τ d hτ
  have hrun : (rd >>= k).run P w = (k (φ w)).run P w := by
    show (rd.bind k).run P _ = _
    rw [Sem.run_bind', r1]; rfl
  have hl : Lists P (k (φ w)) w g → Lists P (rd >>= k) w g := fun ⟨new, h3, h4⟩ => ⟨new, fun es => by
    show (rd.bind k).events P w es = _
    rw [Sem.events_bind', r1, ← h3]
    show (k (φ w)).events P w (rd.runT P w es).2 = _
    rw [h1], h4⟩
  cases r with
  | ok x g' => obtain ⟨k1, k2, w', k3, k4, k5, k6, k7⟩ := hfit; exact ⟨k1, k2, w', hrun.trans k3, k4, k5, k6, hl k7⟩
  | halt h₀ g' =>
    cases h₀ with
    | panic v => obtain ⟨k2, w', k3, k4, k5, k6, k7⟩ := hfit; exact ⟨k2, w', hrun.trans k3, k4, k5, k6, hl k7⟩
    | _ => exact hfit
theorem Cov.deadBind {α β : Type} {L : α → Prop} {h : Halt} {f : β → Sem α} {s : Sem α} (hh : Gone h) : Cov P q L (Sem.halt h >>= f) s := Cov.dead (h := h) hh

def strg (w : World) (a : Addr) : Bool := w.frozen? a || (match w.shape? a.block with | some (_, n) => w.frozen? { block := a.block, off := n } | none => false)
def isNil (w : World) (a : Addr) : Bool := w.shape? a.block matches some (_, 0)
def mbo (w : World) (a b : Addr) : Bool := (strg w a && strg w b) || (strg w a && isNil w a) || (strg w b && isNil w b)
theorem strg_sim {w g : World} (h : Sim w g) {a : Addr} (hs : strg w a = true) : strg g a = true := by
  unfold strg at hs ⊢
  rw [h.shape?]
  simp only [Bool.or_eq_true] at hs ⊢
  rcases hs with hs | hs
  · exact .inl (h.frozen hs)
  · right
    split at hs
    · exact h.frozen hs
    · cases hs
theorem mbo_sim {w g : World} (h : Sim w g) {a b : Addr} (hs : mbo w a b = true) : mbo g a b = true := by
  unfold mbo isNil at hs ⊢
  rw [h.shape?, h.shape?]
  simp only [Bool.or_eq_true, Bool.and_eq_true] at hs ⊢
  rcases hs with (⟨h1, h2⟩ | ⟨h1, h2⟩) | ⟨h1, h2⟩
  · exact .inl (.inl ⟨strg_sim h h1, strg_sim h h2⟩)
  · exact .inl (.inr ⟨strg_sim h h1, h2⟩)
  · exact .inr ⟨strg_sim h h1, h2⟩
omit [Base] in
theorem run_stringish (a : Addr) (w : World) (es : Array Event) : (Go.stringish a).runT P w es = (.ok (strg w a) w, es) := by
  unfold Go.stringish strg
  have e1 : (Go.frozen a).runT P w es = (.ok (w.frozen? a) w, es) := rfl
  have e2 : (Go.shape a.block).runT P w es = (.ok (w.shape? a.block) w, es) := rfl
  show ((Go.frozen a).bind _).runT P w es = _
  rw [Sem.runT_bind', e1]
  cases w.frozen? a with
  | true => rfl
  | false =>
    show ((Go.shape a.block).bind _).runT P w es = _
    rw [Sem.runT_bind', e2]
    cases w.shape? a.block with
    | none => rfl
    | some x => rfl
omit [Base] in
theorem run_mbo (a b : Addr) (w : World) (es : Array Event) : (Go.mayBeOne a b).runT P w es = (.ok (mbo w a b) w, es) := by
  unfold Go.mayBeOne
  show ((Go.stringish a).bind _).runT P w es = _
  rw [Sem.runT_bind', run_stringish]
  show ((Go.stringish b).bind _).runT P w es = _
  rw [Sem.runT_bind', run_stringish]
  rfl
theorem c_rtErr {α : Type} (m : String) : Cov P q T (Go.runtimePanic (.error m) : Sem α) (Go.runtimePanic (.error m)) := by
  unfold Go.runtimePanic
  exact Cov.bind (L := T) (Cov.program trivial) fun _ _ => Cov.goPanic
theorem c_viewAt (r : Nat) : Cov P q T (Go.viewAt r) (Go.viewAt r) := by
  unfold Go.viewAt
  repeat' (first | with_reducible exact Cov.pure trivial | with_reducible exact Cov.pure' trivial | with_reducible exact Cov.haltS | with_reducible exact Cov.haltU | with_reducible exact Cov.haltP | with_reducible exact Cov.stuck | with_reducible exact Cov.unsup | with_reducible exact Cov.goPanic | with_reducible exact Cov.shape (fun _ => trivial) | with_reducible exact Cov.getObj (fun _ => trivial) | (with_reducible refine Cov.bind (L := T) ?_ (fun _ _ => ?_)) | (with_reducible refine Cov.ite (fun _ => ?_) (fun _ => ?_)) | split | (dsimp only))

theorem c_noView (a : Addr) : Cov P q T (Go.noView a) (Go.noView a) := by
  unfold Go.noView Go.unsupported
  repeat' (first | with_reducible exact Cov.pure trivial | with_reducible exact Cov.pure' trivial | with_reducible exact Cov.haltS | with_reducible exact Cov.haltU | with_reducible exact Cov.haltP | with_reducible exact Cov.stuck | with_reducible exact Cov.unsup | with_reducible exact Cov.goPanic | with_reducible exact c_viewAt _ | (with_reducible refine Cov.bind (L := T) ?_ (fun _ _ => ?_)) | (with_reducible refine Cov.ite (fun _ => ?_) (fun _ => ?_)) | split | (dsimp only))

theorem c_sameAddr (a b : Addr) : Cov P q T (Go.sameAddr a b) (Go.sameAddr a b) := by
  unfold Go.sameAddr
  split
  · exact Cov.pure trivial
  refine Cov.frozen2 fun fa fa' ha => Cov.frozen2 fun fb fb' hb => ?_
  have rest : ∀ x : PUnit, Cov P q T ((do
      noView a
      noView b
      if ← mayBeOne a b then return (← choose (.extern "sameAddr.stringBytes" 2)) == 1
      pure false) : Sem Bool) (do
      noView a
      noView b
      if ← mayBeOne a b then return (← choose (.extern "sameAddr.stringBytes" 2)) == 1
      pure false) := fun _ => by
    refine Cov.bind (c_noView a) fun _ _ => Cov.bind (c_noView b) fun _ _ => ?_
    refine Cov.read (mbo · a b) (run_mbo a b) (fun _ _ _ => rfl) fun w g hs => ?_
    cases e : mbo w a b with
    | true =>
      rw [mbo_sim hs e]
      exact Cov.bind (L := T) (Cov.choose fun _ => trivial) fun _ _ => Cov.pure trivial
    | false =>
      cases mbo g a b with
      | false => exact Cov.pure trivial
      | true =>
        intro w g hs
        refine ⟨[0], .ok false g, fun τ d hτ => ?_, trivial, fun _ => rfl, w, rfl, rfl, hs, .refl g, .nil fun _ => rfl⟩
        have := hτ 0 (by simp) (.extern "sameAddr.stringBytes" 2)
        simp only [Nat.add_zero, List.getElem_cons_zero] at this
        show (((choose (.extern "sameAddr.stringBytes" 2)).bind _).run P _) = _
        rw [Sem.run_bind']
        simp [Go.choose, Sem.run, Question.forced, Question.cut, this, reR, re]
  cases e1 : (fa' && fb') with
  | true => exact Cov.deadBind trivial
  | false =>
    have e2 : (fa && fb) = false := by
      cases e3 : (fa && fb) with
      | false => rfl
      | true =>
        simp only [Bool.and_eq_true] at e3
        rw [ha e3.1, hb e3.2] at e1; cases e1
    rw [e2]
    exact rest ()

theorem c_samePtr (a b : Option Addr) : Cov P q T (Go.samePointer a b) (Go.samePointer a b) := by
  unfold Go.samePointer
  repeat' (first | with_reducible exact Cov.pure trivial | with_reducible exact Cov.pure' trivial | with_reducible exact Cov.haltS | with_reducible exact Cov.haltU | with_reducible exact Cov.haltP | with_reducible exact Cov.stuck | with_reducible exact Cov.unsup | with_reducible exact Cov.goPanic | with_reducible exact c_sameAddr _ _ | (with_reducible refine Cov.bind (L := T) ?_ (fun _ _ => ?_)) | (with_reducible refine Cov.ite (fun _ => ?_) (fun _ => ?_)) | split | (dsimp only))

theorem c_numberAt (r : Nat) : Cov P q T (Go.numberAt r) (Go.numberAt r) := by
  unfold Go.numberAt
  repeat' (first | with_reducible exact Cov.pure trivial | with_reducible exact Cov.pure' trivial | with_reducible exact Cov.haltS | with_reducible exact Cov.haltU | with_reducible exact Cov.haltP | with_reducible exact Cov.stuck | with_reducible exact Cov.unsup | with_reducible exact Cov.goPanic | with_reducible exact Cov.shape (fun _ => trivial) | with_reducible exact Cov.getObj (fun _ => trivial) | (with_reducible refine Cov.bind (L := T) ?_ (fun _ _ => ?_)) | (with_reducible refine Cov.ite (fun _ => ?_) (fun _ => ?_)) | split | (dsimp only))

theorem c_behind (a : Addr) : Cov P q T (Go.behindNumber a) (Go.behindNumber a) := by
  unfold Go.behindNumber
  repeat' (first | with_reducible exact Cov.pure trivial | with_reducible exact Cov.pure' trivial | with_reducible exact Cov.haltS | with_reducible exact Cov.haltU | with_reducible exact Cov.haltP | with_reducible exact Cov.stuck | with_reducible exact Cov.unsup | with_reducible exact Cov.goPanic | with_reducible exact c_numberAt _ | (with_reducible refine Cov.bind (L := T) ?_ (fun _ _ => ?_)) | (with_reducible refine Cov.ite (fun _ => ?_) (fun _ => ?_)) | split | (dsimp only))

theorem c_byteOf (a : Addr) : Cov P q T (Go.byteOf a) (Go.byteOf a) := by
  unfold Go.byteOf Go.stuck
  repeat' (first | with_reducible exact Cov.pure trivial | with_reducible exact Cov.pure' trivial | with_reducible exact Cov.haltS | with_reducible exact Cov.haltU | with_reducible exact Cov.haltP | with_reducible exact Cov.stuck | with_reducible exact Cov.unsup | with_reducible exact Cov.goPanic | with_reducible exact Cov.shape (fun _ => trivial) | with_reducible exact Cov.program trivial | with_reducible exact c_noView _ | (with_reducible refine Cov.bind (L := T) ?_ (fun _ _ => ?_)) | (with_reducible refine Cov.ite (fun _ => ?_) (fun _ => ?_)) | split | (dsimp only))

theorem c_equalIn : ∀ (d : Nat) (t : TypeId) (x y : Value), Cov P q T (Op.equalIn d t x y) (Op.equalIn d t x y)
  | 0, t, x, y => by unfold Op.equalIn; exact Cov.halt trivial
  | d + 1, t, x, y => by
    have ih := c_equalIn d
    unfold Op.equalIn Go.stuck Go.unsupported
    refine Cov.bind (L := T) (c_under t) fun u _ => ?_
    repeat' (first | with_reducible exact Cov.pure trivial | with_reducible exact Cov.pure' trivial | with_reducible exact Cov.haltS | with_reducible exact Cov.haltU | with_reducible exact Cov.haltP | with_reducible exact Cov.stuck | with_reducible exact Cov.unsup | with_reducible exact Cov.goPanic | with_reducible exact ih _ _ _ | with_reducible exact c_behind _ | with_reducible exact c_byteOf _ | with_reducible exact c_info _ | with_reducible exact Cov.program trivial | with_reducible exact c_size _ | with_reducible exact c_sameAddr _ _ | with_reducible exact c_samePtr _ _ | with_reducible exact Cov.choose (fun _ => trivial) | with_reducible exact c_rtErr _ | with_reducible exact c_str _ | with_reducible exact c_part _ _ _ | (refine Cov.bind (L := T) (covArray _ _ (fun _ _ => ?_) _) (fun _ _ => ?_)) | (refine Cov.bind (L := T) (covRange _ _ (fun _ _ => ?_) _) (fun _ _ => ?_)) | (with_reducible refine Cov.bind (L := T) ?_ (fun _ _ => ?_)) | (with_reducible refine Cov.ite (fun _ => ?_) (fun _ => ?_)) | split | (dsimp only))

theorem c_equal (t : TypeId) (x y : Value) : Cov P q T (Op.equal t x y) (Op.equal t x y) := c_equalIn _ t x y
theorem c_eqGuardIn : ∀ (d : Nat) (t : TypeId) (x y : Value), Cov P q T (Op.eqGuardIn d t x y) (Op.eqGuardIn d t x y)
  | 0, t, x, y => by unfold Op.eqGuardIn; exact Cov.halt trivial
  | d + 1, t, x, y => by
    have ih := c_eqGuardIn d
    unfold Op.eqGuardIn
    refine Cov.bind (L := T) (c_under t) fun u _ => ?_
    repeat' (first | with_reducible exact Cov.pure trivial | with_reducible exact Cov.pure' trivial | with_reducible exact Cov.haltS | with_reducible exact Cov.haltU | with_reducible exact Cov.haltP | with_reducible exact Cov.stuck | with_reducible exact Cov.unsup | with_reducible exact Cov.goPanic | with_reducible exact ih _ _ _ | with_reducible exact c_size _ | with_reducible exact c_part _ _ _ | (refine Cov.bind (L := T) (covArray _ _ (fun _ _ => ?_) _) (fun _ _ => ?_)) | (refine Cov.bind (L := T) (covRange _ _ (fun _ _ => ?_) _) (fun _ _ => ?_)) | (with_reducible refine Cov.bind (L := T) ?_ (fun _ _ => ?_)) | (with_reducible refine Cov.ite (fun _ => ?_) (fun _ => ?_)) | split | (dsimp only))


theorem c_eqGuard (op : BinOp) (t : TypeId) (x y : Operand) (a b : Value) : Cov P q T (Go.eqGuard op t x y a b) (Go.eqGuard op t x y a b) := by
  unfold Go.eqGuard Go.unsupported
  repeat' (first | with_reducible exact Cov.pure trivial | with_reducible exact Cov.pure' trivial | with_reducible exact Cov.haltS | with_reducible exact Cov.haltU | with_reducible exact Cov.haltP | with_reducible exact Cov.stuck | with_reducible exact Cov.unsup | with_reducible exact Cov.goPanic | with_reducible exact Cov.program trivial | with_reducible exact c_eqGuardIn _ _ _ _ | (with_reducible refine Cov.bind (L := T) ?_ (fun _ _ => ?_)) | (with_reducible refine Cov.ite (fun _ => ?_) (fun _ => ?_)) | split | (dsimp only))

theorem c_shift (op : BinOp) (k k' : IntKind) (x y : Int) : Cov P false T (Op.shift op k x k' y) (Op.shift op k x k' y) := by
  unfold Op.shift Go.stuck
  repeat' (first | with_reducible exact Cov.pure trivial | with_reducible exact Cov.pure' trivial | with_reducible exact Cov.haltS | with_reducible exact Cov.haltU | with_reducible exact Cov.haltP | with_reducible exact Cov.stuck | with_reducible exact Cov.unsup | with_reducible exact Cov.goPanic | with_reducible exact c_rtPanic _ | (with_reducible refine Cov.bind (L := T) ?_ (fun _ _ => ?_)) | (with_reducible refine Cov.ite (fun _ => ?_) (fun _ => ?_)) | split | (dsimp only))

theorem c_intArith (op : BinOp) (k : IntKind) (x y : Int) : Cov P q T (Op.intArith op k x y) (Op.intArith op k x y) := by
  unfold Op.intArith Go.stuck
  repeat' (first | with_reducible exact Cov.pure trivial | with_reducible exact Cov.pure' trivial | with_reducible exact Cov.haltS | with_reducible exact Cov.haltU | with_reducible exact Cov.haltP | with_reducible exact Cov.stuck | with_reducible exact Cov.unsup | with_reducible exact Cov.goPanic | (with_reducible refine Cov.bind (L := T) ?_ (fun _ _ => ?_)) | (with_reducible refine Cov.ite (fun _ => ?_) (fun _ => ?_)) | split | (dsimp only))

theorem c_intDiv (op : BinOp) (k : IntKind) (x y : Int) : Cov P false T (Op.intDiv op k x y) (Op.intDiv op k x y) := by
  unfold Op.intDiv Go.stuck
  repeat' (first | with_reducible exact Cov.pure trivial | with_reducible exact Cov.pure' trivial | with_reducible exact Cov.haltS | with_reducible exact Cov.haltU | with_reducible exact Cov.haltP | with_reducible exact Cov.stuck | with_reducible exact Cov.unsup | with_reducible exact Cov.goPanic | with_reducible exact c_rtPanic _ | (with_reducible refine Cov.bind (L := T) ?_ (fun _ _ => ?_)) | (with_reducible refine Cov.ite (fun _ => ?_) (fun _ => ?_)) | split | (dsimp only))

theorem c_intBits (op : BinOp) (k : IntKind) (x y : Int) : Cov P q T (Op.intBits op k x y) (Op.intBits op k x y) := by
  unfold Op.intBits Go.stuck
  repeat' (first | with_reducible exact Cov.pure trivial | with_reducible exact Cov.pure' trivial | with_reducible exact Cov.haltS | with_reducible exact Cov.haltU | with_reducible exact Cov.haltP | with_reducible exact Cov.stuck | with_reducible exact Cov.unsup | with_reducible exact Cov.goPanic | (with_reducible refine Cov.bind (L := T) ?_ (fun _ _ => ?_)) | (with_reducible refine Cov.ite (fun _ => ?_) (fun _ => ?_)) | split | (dsimp only))

theorem c_intCmp (op : BinOp) (x y : Int) : Cov P q T (Op.intCmp op x y) (Op.intCmp op x y) := by
  unfold Op.intCmp Go.stuck
  repeat' (first | with_reducible exact Cov.pure trivial | with_reducible exact Cov.pure' trivial | with_reducible exact Cov.haltS | with_reducible exact Cov.haltU | with_reducible exact Cov.haltP | with_reducible exact Cov.stuck | with_reducible exact Cov.unsup | with_reducible exact Cov.goPanic | (with_reducible refine Cov.bind (L := T) ?_ (fun _ _ => ?_)) | (with_reducible refine Cov.ite (fun _ => ?_) (fun _ => ?_)) | split | (dsimp only))

theorem c_floatArith (op : BinOp) (k : FloatKind) (x y : Nat) : Cov P q T (Op.floatArith op k x y) (Op.floatArith op k x y) := by
  unfold Op.floatArith Go.stuck
  repeat' (first | with_reducible exact Cov.pure trivial | with_reducible exact Cov.pure' trivial | with_reducible exact Cov.haltS | with_reducible exact Cov.haltU | with_reducible exact Cov.haltP | with_reducible exact Cov.stuck | with_reducible exact Cov.unsup | with_reducible exact Cov.goPanic | with_reducible exact Cov.choose (fun _ => trivial) | (with_reducible refine Cov.bind (L := T) ?_ (fun _ _ => ?_)) | (with_reducible refine Cov.ite (fun _ => ?_) (fun _ => ?_)) | split | (dsimp only))

theorem c_floatCmp (op : BinOp) (k : FloatKind) (x y : Nat) : Cov P q T (Op.floatCmp op k x y) (Op.floatCmp op k x y) := by
  unfold Op.floatCmp Go.stuck
  repeat' (first | with_reducible exact Cov.pure trivial | with_reducible exact Cov.pure' trivial | with_reducible exact Cov.haltS | with_reducible exact Cov.haltU | with_reducible exact Cov.haltP | with_reducible exact Cov.stuck | with_reducible exact Cov.unsup | with_reducible exact Cov.goPanic | (with_reducible refine Cov.bind (L := T) ?_ (fun _ _ => ?_)) | (with_reducible refine Cov.ite (fun _ => ?_) (fun _ => ?_)) | split | (dsimp only))

theorem c_f2f (k : FloatKind) (b : Nat) (l : FloatKind) : Cov P q T (Conv.floatToFloat k b l) (Conv.floatToFloat k b l) := by
  unfold Conv.floatToFloat
  repeat' (first | with_reducible exact Cov.pure trivial | with_reducible exact Cov.pure' trivial | with_reducible exact Cov.haltS | with_reducible exact Cov.haltU | with_reducible exact Cov.haltP | with_reducible exact Cov.stuck | with_reducible exact Cov.unsup | with_reducible exact Cov.goPanic | with_reducible exact Cov.choose (fun _ => trivial) | (with_reducible refine Cov.bind (L := T) ?_ (fun _ _ => ?_)) | (with_reducible refine Cov.ite (fun _ => ?_) (fun _ => ?_)) | split | (dsimp only))

theorem c_xarith (op : BinOp) (k : FloatKind) (x y : Nat) : Cov P q T (Op.Complex.arith op k x y) (Op.Complex.arith op k x y) := by
  unfold Op.Complex.arith Go.stuck
  repeat' (first | with_reducible exact Cov.pure trivial | with_reducible exact Cov.pure' trivial | with_reducible exact Cov.haltS | with_reducible exact Cov.haltU | with_reducible exact Cov.haltP | with_reducible exact Cov.stuck | with_reducible exact Cov.unsup | with_reducible exact Cov.goPanic | with_reducible exact c_floatArith _ _ _ _ | (with_reducible refine Cov.bind (L := T) ?_ (fun _ _ => ?_)) | (with_reducible refine Cov.ite (fun _ => ?_) (fun _ => ?_)) | split | (dsimp only))

theorem c_xcmp (op : BinOp) (k : FloatKind) (x y : Nat) : Cov P q T (Op.Complex.cmp op k x y) (Op.Complex.cmp op k x y) := by
  unfold Op.Complex.cmp
  repeat' (first | with_reducible exact Cov.pure trivial | with_reducible exact Cov.pure' trivial | with_reducible exact Cov.haltS | with_reducible exact Cov.haltU | with_reducible exact Cov.haltP | with_reducible exact Cov.stuck | with_reducible exact Cov.unsup | with_reducible exact Cov.goPanic | with_reducible exact c_floatCmp _ _ _ _ | with_reducible exact c_bool _ | (with_reducible refine Cov.bind (L := T) ?_ (fun _ _ => ?_)) | (with_reducible refine Cov.ite (fun _ => ?_) (fun _ => ?_)) | split | (dsimp only))

theorem c_xconv (k : FloatKind) (x : Nat) (l : FloatKind) : Cov P q T (Op.Complex.conv k x l) (Op.Complex.conv k x l) := by
  unfold Op.Complex.conv Go.stuck
  repeat' (first | with_reducible exact Cov.pure trivial | with_reducible exact Cov.pure' trivial | with_reducible exact Cov.haltS | with_reducible exact Cov.haltU | with_reducible exact Cov.haltP | with_reducible exact Cov.stuck | with_reducible exact Cov.unsup | with_reducible exact Cov.goPanic | with_reducible exact c_f2f _ _ _ | (with_reducible refine Cov.bind (L := T) ?_ (fun _ _ => ?_)) | (with_reducible refine Cov.ite (fun _ => ?_) (fun _ => ?_)) | split | (dsimp only))

theorem c_xproduct (a b c d : Nat) : Cov P q T (Op.Complex.product a b c d) (Op.Complex.product a b c d) := by
  unfold Op.Complex.product Op.Complex.mul Op.Complex.sub Op.Complex.add
  repeat' (first | with_reducible exact Cov.pure trivial | with_reducible exact Cov.pure' trivial | with_reducible exact Cov.haltS | with_reducible exact Cov.haltU | with_reducible exact Cov.haltP | with_reducible exact Cov.stuck | with_reducible exact Cov.unsup | with_reducible exact Cov.goPanic | with_reducible exact c_xarith _ _ _ _ | with_reducible exact c_xcmp _ _ _ _ | with_reducible exact c_xconv _ _ _ | (with_reducible refine Cov.bind (L := T) ?_ (fun _ _ => ?_)) | (with_reducible refine Cov.ite (fun _ => ?_) (fun _ => ?_)) | split | (dsimp only))

theorem c_xcorr (s a b c d : Nat) : Cov P q T (Op.Complex.corrected s a b c d) (Op.Complex.corrected s a b c d) := by
  unfold Op.Complex.corrected Op.Complex.mul Op.Complex.sub Op.Complex.add
  repeat' (first | with_reducible exact Cov.pure trivial | with_reducible exact Cov.pure' trivial | with_reducible exact Cov.haltS | with_reducible exact Cov.haltU | with_reducible exact Cov.haltP | with_reducible exact Cov.stuck | with_reducible exact Cov.unsup | with_reducible exact Cov.goPanic | with_reducible exact c_xarith _ _ _ _ | with_reducible exact c_xcmp _ _ _ _ | with_reducible exact c_xconv _ _ _ | (with_reducible refine Cov.bind (L := T) ?_ (fun _ _ => ?_)) | (with_reducible refine Cov.ite (fun _ => ?_) (fun _ => ?_)) | split | (dsimp only))

theorem c_xquot (a b c d : Nat) : Cov P q T (Op.Complex.quotient a b c d) (Op.Complex.quotient a b c d) := by
  unfold Op.Complex.quotient Op.Complex.mul Op.Complex.sub Op.Complex.add Op.Complex.quo
  repeat' (first | with_reducible exact Cov.pure trivial | with_reducible exact Cov.pure' trivial | with_reducible exact Cov.haltS | with_reducible exact Cov.haltU | with_reducible exact Cov.haltP | with_reducible exact Cov.stuck | with_reducible exact Cov.unsup | with_reducible exact Cov.goPanic | with_reducible exact c_xcorr _ _ _ _ _ | with_reducible exact c_xarith _ _ _ _ | with_reducible exact c_xcmp _ _ _ _ | with_reducible exact c_xconv _ _ _ | (with_reducible refine Cov.bind (L := T) ?_ (fun _ _ => ?_)) | (with_reducible refine Cov.ite (fun _ => ?_) (fun _ => ?_)) | split | (dsimp only))

theorem c_complexOp (op : BinOp) (k : FloatKind) (a b c d : Nat) : Cov P q T (Op.complexOp op k a b c d) (Op.complexOp op k a b c d) := by
  unfold Op.complexOp Go.stuck
  repeat' (first | with_reducible exact Cov.pure trivial | with_reducible exact Cov.pure' trivial | with_reducible exact Cov.haltS | with_reducible exact Cov.haltU | with_reducible exact Cov.haltP | with_reducible exact Cov.stuck | with_reducible exact Cov.unsup | with_reducible exact Cov.goPanic | with_reducible exact c_xproduct _ _ _ _ | with_reducible exact c_xquot _ _ _ _ | with_reducible exact c_xarith _ _ _ _ | with_reducible exact c_xcmp _ _ _ _ | with_reducible exact c_xconv _ _ _ | (with_reducible refine Cov.bind (L := T) ?_ (fun _ _ => ?_)) | (with_reducible refine Cov.ite (fun _ => ?_) (fun _ => ?_)) | split | (dsimp only))

theorem c_stringOp (op : BinOp) (x y : ByteArray) : Cov P q T (Op.stringOp op x y) (Op.stringOp op x y) := by
  unfold Op.stringOp Go.stuck Go.unsupported
  repeat' (first | with_reducible exact Cov.pure trivial | with_reducible exact Cov.pure' trivial | with_reducible exact Cov.haltS | with_reducible exact Cov.haltU | with_reducible exact Cov.haltP | with_reducible exact Cov.stuck | with_reducible exact Cov.unsup | with_reducible exact Cov.goPanic | (with_reducible refine Cov.bind (L := T) ?_ (fun _ _ => ?_)) | (with_reducible refine Cov.ite (fun _ => ?_) (fun _ => ?_)) | split | (dsimp only))

theorem c_unsafeAdd (ts : Array TypeId) (t : TypeId) (x y : Value) : Cov P q T (Builtin.unsafeAdd_ ts t #[x, y]) (Builtin.unsafeAdd_ ts t #[x, y]) := by
  unfold Builtin.unsafeAdd_
  cases x with
  | pointer ptr =>
    refine Cov.bind (L := T) (c_int (q := q) y) (fun n _ => ?_)
    repeat' (first | with_reducible exact Cov.pure trivial | with_reducible exact Cov.pure' trivial | with_reducible exact Cov.haltS | with_reducible exact Cov.haltU | with_reducible exact Cov.haltP | with_reducible exact Cov.stuck | with_reducible exact Cov.unsup | with_reducible exact Cov.goPanic | with_reducible exact c_int _ | with_reducible exact c_viewAt _ | with_reducible exact Cov.shape (fun _ => trivial) | with_reducible exact Cov.program trivial | (with_reducible refine Cov.bind (L := T) ?_ (fun _ _ => ?_)) | (with_reducible refine Cov.ite (fun _ => ?_) (fun _ => ?_)) | split | (dsimp only))
  | _ => exact Cov.stuck

theorem c_asNumber (a : Addr) (l : Bool) : Cov P false T (Go.asNumber a l) (Go.asNumber a l) := by
  unfold Go.asNumber
  repeat' (first | with_reducible exact Cov.pure trivial | with_reducible exact Cov.pure' trivial | with_reducible exact Cov.haltS | with_reducible exact Cov.haltU | with_reducible exact Cov.haltP | with_reducible exact Cov.stuck | with_reducible exact Cov.unsup | with_reducible exact Cov.goPanic | with_reducible exact Cov.newCells (fun _ => trivial) | with_reducible exact Cov.newNumber (fun _ => trivial) | with_reducible exact Cov.newMap (fun _ => trivial) | with_reducible exact Cov.newChan (fun _ => trivial) | (with_reducible refine Cov.bind (L := T) ?_ (fun _ _ => ?_)) | (with_reducible refine Cov.ite (fun _ => ?_) (fun _ => ?_)) | split | (dsimp only))

theorem c_movedN (t : TypeId) (x y : Value) : Cov P false T (Go.movedNumber t x y) (Go.movedNumber t x y) := by
  unfold Go.movedNumber Go.unsupported
  repeat' (first | with_reducible exact Cov.pure trivial | with_reducible exact Cov.pure' trivial | with_reducible exact Cov.haltS | with_reducible exact Cov.haltU | with_reducible exact Cov.haltP | with_reducible exact Cov.stuck | with_reducible exact Cov.unsup | with_reducible exact Cov.goPanic | with_reducible exact c_under _ | with_reducible exact c_behind _ | with_reducible exact c_unsafeAdd _ _ _ _ | with_reducible exact c_asNumber _ _ | (with_reducible refine Cov.bind (L := T) ?_ (fun _ _ => ?_)) | (with_reducible refine Cov.ite (fun _ => ?_) (fun _ => ?_)) | split | (dsimp only))

theorem c_movedP (t : TypeId) (x y : Value) : Cov P q T (Go.movedPointer t x y) (Go.movedPointer t x y) := by
  unfold Go.movedPointer Go.unsupported
  repeat' (first | with_reducible exact Cov.pure trivial | with_reducible exact Cov.pure' trivial | with_reducible exact Cov.haltS | with_reducible exact Cov.haltU | with_reducible exact Cov.haltP | with_reducible exact Cov.stuck | with_reducible exact Cov.unsup | with_reducible exact Cov.goPanic | with_reducible exact c_numberAt _ | with_reducible exact c_unsafeAdd _ _ _ _ | (with_reducible refine Cov.bind (L := T) ?_ (fun _ _ => ?_)) | (with_reducible refine Cov.ite (fun _ => ?_) (fun _ => ?_)) | split | (dsimp only))

theorem c_twoPlaces (a b : Addr) : Cov P q T (Op.twoPlaces a b) (Op.twoPlaces a b) := by
  unfold Op.twoPlaces Go.unsupported
  repeat' (first | with_reducible exact Cov.pure trivial | with_reducible exact Cov.pure' trivial | with_reducible exact Cov.haltS | with_reducible exact Cov.haltU | with_reducible exact Cov.haltP | with_reducible exact Cov.stuck | with_reducible exact Cov.unsup | with_reducible exact Cov.goPanic | with_reducible exact Cov.program trivial | with_reducible exact c_byteOf _ | (with_reducible refine Cov.bind (L := T) ?_ (fun _ _ => ?_)) | (with_reducible refine Cov.ite (fun _ => ?_) (fun _ => ?_)) | split | (dsimp only))

theorem c_addrSub (k : IntKind) (a b : Addr) : Cov P q T (Op.addrSub k a b) (Op.addrSub k a b) := by
  unfold Op.addrSub
  repeat' (first | with_reducible exact Cov.pure trivial | with_reducible exact Cov.pure' trivial | with_reducible exact Cov.haltS | with_reducible exact Cov.haltU | with_reducible exact Cov.haltP | with_reducible exact Cov.stuck | with_reducible exact Cov.unsup | with_reducible exact Cov.goPanic | with_reducible exact c_twoPlaces _ _ | (with_reducible refine Cov.bind (L := T) ?_ (fun _ _ => ?_)) | (with_reducible refine Cov.ite (fun _ => ?_) (fun _ => ?_)) | split | (dsimp only))

theorem c_addrCmp (op : BinOp) (a b : Addr) : Cov P q T (Op.addrCmp op a b) (Op.addrCmp op a b) := by
  unfold Op.addrCmp Go.unsupported
  repeat' (first | with_reducible exact Cov.pure trivial | with_reducible exact Cov.pure' trivial | with_reducible exact Cov.haltS | with_reducible exact Cov.haltU | with_reducible exact Cov.haltP | with_reducible exact Cov.stuck | with_reducible exact Cov.unsup | with_reducible exact Cov.goPanic | with_reducible exact c_twoPlaces _ _ | (with_reducible refine Cov.bind (L := T) ?_ (fun _ _ => ?_)) | (with_reducible refine Cov.ite (fun _ => ?_) (fun _ => ?_)) | split | (dsimp only))

theorem c_addrMod (k : IntKind) (a : Addr) (n : Int) : Cov P q T (Op.addrMod k a n) (Op.addrMod k a n) := by
  unfold Op.addrMod Go.unsupported
  repeat' (first | with_reducible exact Cov.pure trivial | with_reducible exact Cov.pure' trivial | with_reducible exact Cov.haltS | with_reducible exact Cov.haltU | with_reducible exact Cov.haltP | with_reducible exact Cov.stuck | with_reducible exact Cov.unsup | with_reducible exact Cov.goPanic | with_reducible exact Cov.shape (fun _ => trivial) | with_reducible exact c_info _ | with_reducible exact c_byteOf _ | (with_reducible refine Cov.bind (L := T) ?_ (fun _ _ => ?_)) | (with_reducible refine Cov.ite (fun _ => ?_) (fun _ => ?_)) | split | (dsimp only))

theorem c_binOp (op : BinOp) (t : TypeId) (x y : Value) : Cov P false T (Go.binOp op t x y) (Go.binOp op t x y) := by
  unfold Go.binOp Go.stuck Go.unsupported
  repeat' (first | with_reducible exact Cov.pure trivial | with_reducible exact Cov.pure' trivial | with_reducible exact Cov.haltS | with_reducible exact Cov.haltU | with_reducible exact Cov.haltP | with_reducible exact Cov.stuck | with_reducible exact Cov.unsup | with_reducible exact Cov.goPanic | with_reducible exact c_shift _ _ _ _ _ | with_reducible exact c_intArith _ _ _ _ | with_reducible exact c_intDiv _ _ _ _ | with_reducible exact c_intBits _ _ _ _ | with_reducible exact c_intCmp _ _ _ | with_reducible exact c_floatArith _ _ _ _ | with_reducible exact c_floatCmp _ _ _ _ | with_reducible exact c_complexOp _ _ _ _ _ _ | with_reducible exact c_stringOp _ _ _ | with_reducible exact c_equal _ _ _ | with_reducible exact c_under _ | with_reducible exact c_movedP _ _ _ | with_reducible exact c_movedN _ _ _ | with_reducible exact c_behind _ | with_reducible exact c_addrSub _ _ _ | with_reducible exact c_addrCmp _ _ _ | with_reducible exact c_addrMod _ _ _ | (with_reducible refine Cov.bind (L := T) ?_ (fun _ _ => ?_)) | (with_reducible refine Cov.ite (fun _ => ?_) (fun _ => ?_)) | split | (dsimp only))

theorem c_unary (op : UnOp) (x : Value) : Cov P q T (Op.unary op x) (Op.unary op x) := by
  unfold Op.unary Go.stuck Go.unsupported
  repeat' (first | with_reducible exact Cov.pure trivial | with_reducible exact Cov.pure' trivial | with_reducible exact Cov.haltS | with_reducible exact Cov.haltU | with_reducible exact Cov.haltP | with_reducible exact Cov.stuck | with_reducible exact Cov.unsup | with_reducible exact Cov.goPanic | with_reducible exact c_intArith _ _ _ _ | with_reducible exact c_intBits _ _ _ _ | (with_reducible refine Cov.bind (L := T) ?_ (fun _ _ => ?_)) | (with_reducible refine Cov.ite (fun _ => ?_) (fun _ => ?_)) | split | (dsimp only))

end
end Go.Tre

/- Cov of the operations that plain code is made of, on: maps, append, atomic accesses, conversions of whole numbers; then of a whole operation. Every premise stands in the statements. -/
set_option linter.unusedSimpArgs false
set_option linter.unusedVariables false
set_option maxHeartbeats 1000000
namespace Go.Tre
variable [Base]
section
variable {P : Program} {q : Bool}

/-- Cov at one pair of worlds. -/
def At {α : Type} (P : Program) (q : Bool) (L : α → Prop) (t s : Sem α) (w g : World) : Prop :=
  ∃ (aq : List Nat) (r : Result α), (∀ τ d, Feeds τ d aq → t.run P (re g τ d) = reR r τ (d + aq.length)) ∧ Fits P q L w g s r

theorem At.bind {α β : Type} {L : α → Prop} {M : β → Prop} {t s : Sem α} {f k : α → Sem β} (h : Cov P true L t s) {w g : World} (hs : Sim w g)
    (hf : ∀ x, L x → ∀ w' g', Sim w' g' → g'.heap = g.heap → At P q M (f x) (k x) w' g') : At P q M (t >>= f) (s >>= k) w g := by
  obtain ⟨aq, r, hr, hfit⟩ := h w g hs
  cases r with
  | halt h₀ g' =>
    refine ⟨aq, .halt h₀ g', fun τ d hτ => ?_, ?_⟩
    · show (t.bind f).run P _ = _
      rw [Sem.run_bind', hr τ d hτ]; rfl
    · cases h₀ with
      | panic v =>
        obtain ⟨hq, w', h1, h2, h3, h4, new, h5, h6⟩ := hfit
        refine ⟨fun _ => hq rfl, w', ?_, h2, h3, h4, new, fun es => ?_, h6⟩
        · show (s.bind k).run P _ = _
          rw [Sem.run_bind', h1]; rfl
        · show (s.bind k).events P w es = _
          rw [Sem.events_bind', h1, ← h5]; rfl
      | _ => exact hfit
  | ok x g' =>
    obtain ⟨hL, hq, w', h1, h2, h3, h4, new, h5, h6⟩ := hfit
    obtain ⟨bs, r', hr', hfit'⟩ := hf x hL w' g' h3 (hq rfl)
    refine ⟨aq ++ bs, r', fun τ d hτ => ?_, ?_⟩
    · show (t.bind f).run P _ = _
      rw [Sem.run_bind', hr τ d hτ.left]
      show (f x).run P (re g' τ (d + aq.length)) = _
      rw [hr' τ _ hτ.right]
      simp [Nat.add_assoc]
    · have hl : ∀ es, (s >>= k).events P w es = (k x).events P w' (es ++ new) := fun es => by
        show (s.bind k).events P w es = _
        rw [Sem.events_bind', h1, h5]; rfl
      have hrun : (s >>= k).run P w = (k x).run P w' := by
        show (s.bind k).run P _ = _
        rw [Sem.run_bind', h1]; rfl
      have lists : Lists P (k x) w' g' → Lists P (s >>= k) w g := by
        rintro ⟨new', e5, e6⟩
        refine ⟨new ++ new', fun es => by rw [hl, e5, Array.append_assoc], fun e he => ?_⟩
        rcases Array.mem_append.1 he with he | he
        · exact h6 e he
        · exact (e6 e he).back h4
      cases r' with
      | ok y g'' =>
        obtain ⟨hM, hq', w'', k1, k2, k3, k4, k5⟩ := hfit'
        exact ⟨hM, fun e => (hq' e).trans (hq rfl), w'', hrun.trans k1, k2.trans h2, k3, h4.trans k4, lists k5⟩
      | halt h₀ g'' =>
        cases h₀ with
        | panic v =>
          obtain ⟨hq', w'', k1, k2, k3, k4, k5⟩ := hfit'
          exact ⟨fun e => (hq' e).trans (hq rfl), w'', hrun.trans k1, k2.trans h2, k3, h4.trans k4, lists k5⟩
        | _ => exact hfit'

theorem At.getMap {β : Type} {M : β → Prop} {r : Nat} {es : Array MapEntry} {cl : Nat} {f k : Obj → Sem β} {w g : World} (hs : Sim w g) (hm : g.heap[r]? = some (.map es cl))
    (h : At P q M (f (.map es cl)) (k (.map es cl)) w g) : At P q M (getObj r >>= f) (getObj r >>= k) w g := by
  have hw := hs.other hm (by simp)
  have g1 : ∀ (x : World) (h1 : x.heap[r]? = some (.map es cl)), (getObj r).run P x = .ok (.map es cl) x := fun x h1 => by simp [Go.getObj, Sem.run, h1]
  have g2 : ∀ es', (getObj r).events P w es' = es' ++ #[⟨.obj r, false, false⟩] := fun es' => by
    show (Sem.runT P (.getObj r .pure) w es').2 = _
    simp only [Sem.runT, hw]; exact push_app es' _
  obtain ⟨aq, x, hr, hfit⟩ := h
  refine ⟨aq, x, fun τ d hτ => ?_, ?_⟩
  · show ((getObj r).bind f).run P _ = _
    rw [Sem.run_bind', g1 (re g τ d) hm]; exact hr τ d hτ
  have hrun : (getObj r >>= k).run P w = (k (.map es cl)).run P w := by
    show ((getObj r).bind k).run P _ = _
    rw [Sem.run_bind', g1 w hw]; rfl
  have hl : Lists P (k (.map es cl)) w g → Lists P (getObj r >>= k) w g := fun ⟨new, h3, h4⟩ => ⟨#[⟨.obj r, false, false⟩] ++ new, fun es' => by
    show ((getObj r).bind k).events P w es' = _
    rw [Sem.events_bind', g1 w hw, g2, ← Array.append_assoc, ← h3]; rfl, fun e he => by
      rcases Array.mem_append.1 he with he | he
      · simp at he; subst he; simp [GoodEv]
      · exact h4 e he⟩
  cases x with
  | ok x g' => obtain ⟨k1, k2, w', k3, k4, k5, k6, k7⟩ := hfit; exact ⟨k1, k2, w', hrun.trans k3, k4, k5, k6, hl k7⟩
  | halt h₀ g' =>
    cases h₀ with
    | panic v => obtain ⟨k2, w', k3, k4, k5, k6, k7⟩ := hfit; exact ⟨k2, w', hrun.trans k3, k4, k5, k6, hl k7⟩
    | _ => exact hfit

theorem c_rtUnh {α : Type} (t : TypeId) : Cov P q T (Go.runtimePanic (.unhashable t) : Sem α) (Go.runtimePanic (.unhashable t)) := by
  unfold Go.runtimePanic
  exact Cov.bind (L := T) (Cov.program trivial) fun _ _ => Cov.goPanic

theorem c_checkKey (b : Bool) : ∀ (d : Nat) (t : TypeId) (v : Value), Cov P q T (Instr.checkKey b d t v) (Instr.checkKey b d t v)
  | 0, t, v => by unfold Instr.checkKey; exact Cov.unsup
  | d + 1, t, v => by
    have ih := c_checkKey b d
    unfold Instr.checkKey
    refine Cov.bind (L := T) (c_under t) fun u _ => ?_
    repeat' (first | with_reducible exact Cov.pure trivial | with_reducible exact Cov.pure' trivial | with_reducible exact Cov.haltS | with_reducible exact Cov.haltU | with_reducible exact Cov.haltP | with_reducible exact Cov.stuck | with_reducible exact Cov.unsup | with_reducible exact Cov.goPanic | with_reducible exact ih _ _ | with_reducible exact c_info _ | with_reducible exact c_size _ | with_reducible exact c_rtErr _ | with_reducible exact c_rtUnh _ | with_reducible exact c_str _ | with_reducible exact c_part _ _ _ | (refine Cov.bind (L := T) (covArray _ _ (fun _ _ => ?_) _) (fun _ _ => ?_)) | (refine Cov.bind (L := T) (covRange _ _ (fun _ _ => ?_) _) (fun _ _ => ?_)) | (with_reducible refine Cov.bind (L := T) ?_ (fun _ _ => ?_)) | (with_reducible refine Cov.ite (fun _ => ?_) (fun _ => ?_)) | split | (dsimp only))

theorem c_findAsking (t : TypeId) (k : Value) : ∀ (l : List MapEntry) (i : Nat), Cov P q T (Instr.findAsking t k l i) (Instr.findAsking t k l i)
  | [], i => by unfold Instr.findAsking; exact Cov.pure trivial
  | e :: l, i => by
    unfold Instr.findAsking
    refine Cov.bind (L := T) (c_equal t k e.key) fun b _ => ?_
    split
    · exact Cov.pure trivial
    · exact c_findAsking t k l _

theorem c_findKey (t : TypeId) (k : Value) (l : List MapEntry) : Cov P q T (Instr.findKey t k l) (Instr.findKey t k l) := by
  unfold Instr.findKey
  repeat' (first | with_reducible exact Cov.pure trivial | with_reducible exact Cov.pure' trivial | with_reducible exact Cov.haltS | with_reducible exact Cov.haltU | with_reducible exact Cov.haltP | with_reducible exact Cov.stuck | with_reducible exact Cov.unsup | with_reducible exact Cov.goPanic | with_reducible exact c_under _ | with_reducible exact c_findAsking _ _ _ _ | (with_reducible refine Cov.bind (L := T) ?_ (fun _ _ => ?_)) | (with_reducible refine Cov.ite (fun _ => ?_) (fun _ => ?_)) | split | (dsimp only))

theorem c_lookup (t : TypeId) (x i : Value) (ok : Bool) : Cov P q T (Instr.lookup t x i ok) (Instr.lookup t x i ok) := by
  unfold Instr.lookup
  repeat' (first | with_reducible exact Cov.pure trivial | with_reducible exact Cov.pure' trivial | with_reducible exact Cov.haltS | with_reducible exact Cov.haltU | with_reducible exact Cov.haltP | with_reducible exact Cov.stuck | with_reducible exact Cov.unsup | with_reducible exact Cov.goPanic | with_reducible exact c_under _ | with_reducible exact c_zero _ | with_reducible exact c_checkKey _ _ _ _ | with_reducible exact c_findKey _ _ _ | with_reducible exact Cov.getObj (fun _ => trivial) | (with_reducible refine Cov.bind (L := T) ?_ (fun _ _ => ?_)) | (with_reducible refine Cov.ite (fun _ => ?_) (fun _ => ?_)) | split | (dsimp only))

theorem c_keyStays (x y : Value) : Cov P q T (Instr.keyThatStays x y) (Instr.keyThatStays x y) := by
  unfold Instr.keyThatStays
  repeat' (first | with_reducible exact Cov.pure trivial | with_reducible exact Cov.pure' trivial | with_reducible exact Cov.haltS | with_reducible exact Cov.haltU | with_reducible exact Cov.haltP | with_reducible exact Cov.stuck | with_reducible exact Cov.unsup | with_reducible exact Cov.goPanic | with_reducible exact Cov.choose (fun _ => trivial) | (with_reducible refine Cov.bind (L := T) ?_ (fun _ _ => ?_)) | (with_reducible refine Cov.ite (fun _ => ?_) (fun _ => ?_)) | split | (dsimp only))

theorem c_mapUpdate (t : TypeId) (m k v : Value) : Cov P false T (Instr.mapUpdate t m k v) (Instr.mapUpdate t m k v) := by
  unfold Instr.mapUpdate
  refine Cov.bind (L := T) (c_under t) fun u _ => ?_
  split
  · split
    · exact c_rtPanic _
    · rename_i kt _ _ r
      intro w g hs
      by_cases hm : ∃ es cl, g.heap[r]? = some (.map es cl)
      · obtain ⟨es, cl, hm⟩ := hm
        refine At.getMap hs hm ?_
        refine At.bind (L := T) (c_checkKey _ _ _ _) hs fun _ _ w₁ g₁ hs₁ e₁ => ?_
        refine At.bind (L := T) (c_findKey _ _ _) hs₁ fun x _ w₂ g₂ hs₂ e₂ => ?_
        have hm₂ : g₂.heap[r]? = some (.map es cl) := by rw [e₂, e₁]; exact hm
        cases x with
        | none => exact Cov.setMap trivial w₂ g₂ hs₂ hm₂
        | some y =>
          refine At.bind (L := T) (c_keyStays _ _) hs₂ fun k' _ w₃ g₃ hs₃ e₃ => ?_
          exact Cov.setMap trivial w₃ g₃ hs₃ (by rw [e₃]; exact hm₂)
      · cases e : g.heap[r]? with
        | none => exact ⟨[], .halt (.stuck "getObj: no such block") g, fun τ d _ => by
            show ((getObj r).bind _).run P _ = _
            rw [Sem.run_bind']; simp [Go.getObj, Sem.run, e, reR, Result.andThen], trivial⟩
        | some o =>
          cases o with
          | map es cl => exact absurd ⟨es, cl, e⟩ hm
          | cells c t f => exact ⟨[], .halt (.stuck "getObj: a row of cells") g, fun τ d _ => by
              show ((getObj r).bind _).run P _ = _
              rw [Sem.run_bind']; simp [Go.getObj, Sem.run, e, reR, Result.andThen], trivial⟩
          | _ => exact ⟨[], .halt (.stuck "MapUpdate: map expected") g, fun τ d _ => by
              show ((getObj r).bind _).run P _ = _
              rw [Sem.run_bind']; simp [Go.getObj, Sem.run, e, reR, Result.andThen, Go.stuck], trivial⟩
    · exact Cov.stuck
  · exact Cov.stuck
theorem c_holds (a : Addr) (n : Nat) : Cov P q T (Builtin.holdsCells a n) (Builtin.holdsCells a n) := by
  unfold Builtin.holdsCells
  repeat' (first | with_reducible exact Cov.pure trivial | with_reducible exact Cov.pure' trivial | with_reducible exact Cov.haltS | with_reducible exact Cov.haltU | with_reducible exact Cov.haltP | with_reducible exact Cov.stuck | with_reducible exact Cov.unsup | with_reducible exact Cov.goPanic | with_reducible exact Cov.shape (fun _ => trivial) | (with_reducible refine Cov.bind (L := T) ?_ (fun _ _ => ?_)) | (with_reducible refine Cov.ite (fun _ => ?_) (fun _ => ?_)) | split | (dsimp only))

omit [Base] in
theorem run_holds (a : Addr) (n : Nat) (w : World) (es : Array Event) : (Builtin.holdsCells a n).runT P w es = (.ok (match w.shape? a.block with | some (_, m) => a.spot.isNone && decide (a.off + n ≤ m) | none => false) w, es) := by
  unfold Builtin.holdsCells
  have e2 : (Go.shape a.block).runT P w es = (.ok (w.shape? a.block) w, es) := rfl
  show ((Go.shape a.block).bind _).runT P w es = _
  rw [Sem.runT_bind', e2]
  cases w.shape? a.block with
  | none => rfl
  | some x => rfl

/-- A reading that asks nothing and lists nothing. -/
def Reads {α : Type} (P : Program) (s : Sem α) : Prop := ∀ w, ∃ x, ∀ τ d es, s.runT P (re w τ d) es = (.ok x (re w τ d), es)
omit [Base] in
theorem Reads.bind {α β : Type} {s : Sem α} {f : α → Sem β} (h : Reads P s) (hf : ∀ x, Reads P (f x)) : Reads P (s >>= f) := fun w => by
  obtain ⟨x, hx⟩ := h w
  obtain ⟨y, hy⟩ := hf x w
  refine ⟨y, fun τ d es => ?_⟩
  show (s.bind f).runT P _ _ = _
  rw [Sem.runT_bind', hx]; exact hy τ d es
omit [Base] in
theorem Reads.pure {α : Type} {x : α} : Reads P (Pure.pure x) := fun w => ⟨x, fun _ _ _ => rfl⟩
omit [Base] in
theorem Reads.frozen {a : Addr} : Reads P (Go.frozen a) := fun w => ⟨w.frozen? a, fun _ _ _ => rfl⟩
omit [Base] in
theorem Reads.shape {r : Nat} : Reads P (Go.shape r) := fun w => ⟨w.shape? r, fun _ _ _ => rfl⟩
omit [Base] in
theorem r_holds (a : Addr) (n : Nat) : Reads P (Builtin.holdsCells a n) := by
  unfold Builtin.holdsCells
  refine Reads.bind Reads.shape fun x => ?_
  split <;> exact Reads.pure
omit [Base] in
theorem r_mayShare (size n m : Nat) (b : Option Addr) (x : Value) : Reads P (Builtin.mayShare size n m b x) := by
  unfold Builtin.mayShare
  repeat' (first | with_reducible exact Reads.pure | with_reducible exact Reads.frozen | with_reducible exact r_holds _ _ | (with_reducible refine Reads.bind ?_ (fun _ => ?_)) | split | (dsimp only))
/-- Behind the question whether the two may share, append dies: whatever the ghost answers covers. -/
theorem c_noRoom (size n m : Nat) (b : Option Addr) (x : Value) (u : Unsupported) :
    Cov P q T ((Builtin.mayShare size n m b x >>= fun y => if (!y) = true then (mark .noRoom >>= fun _ => Go.unsupported u) else Go.unsupported u) : Sem Unit) (Builtin.mayShare size n m b x >>= fun y => if (!y) = true then (mark .noRoom >>= fun _ => Go.unsupported u) else Go.unsupported u) := by
  intro w g hs
  obtain ⟨y, hy⟩ := r_mayShare (P := P) size n m b x g
  refine ⟨[], .halt (.unsupported u) g, fun τ d _ => ?_, trivial⟩
  have h1 : (Builtin.mayShare size n m b x).run P (re g τ d) = .ok y (re g τ d) := by rw [← Sem.runT_fst P _ _ #[], hy]
  show ((Builtin.mayShare size n m b x).bind _).run P _ = _
  rw [Sem.run_bind', h1]
  cases y <;> rfl

theorem c_append (ts : Array TypeId) (t : TypeId) (vs : Array Value) : Cov P false T (Builtin.append_ ts t vs) (Builtin.append_ ts t vs) := by
  unfold Builtin.append_
  repeat' (first | with_reducible exact Cov.pure trivial | with_reducible exact Cov.pure' trivial | with_reducible exact Cov.haltS | with_reducible exact Cov.haltU | with_reducible exact Cov.haltP | with_reducible exact Cov.stuck | with_reducible exact Cov.unsup | with_reducible exact Cov.goPanic | with_reducible exact c_under _ | with_reducible exact c_size _ | with_reducible exact c_zero _ | with_reducible exact c_info _ | with_reducible exact c_noRoom _ _ _ _ _ _ | with_reducible exact c_int _ | with_reducible exact Cov.choose (fun _ => trivial) | with_reducible exact c_rtPanic _ | with_reducible exact c_lenOf _ | with_reducible exact c_firstCells _ _ _ | with_reducible exact c_storeCells _ _ _ | with_reducible exact c_newRow _ _ | with_reducible exact c_askRoom _ | (with_reducible refine Cov.bind (L := T) ?_ (fun _ _ => ?_)) | (with_reducible refine Cov.ite (fun _ => ?_) (fun _ => ?_)) | split | (dsimp only))

theorem c_min2 (x y : Value) : Cov P q T (Builtin.min2 x y) (Builtin.min2 x y) := by
  unfold Builtin.min2
  repeat' (first | with_reducible exact Cov.pure trivial | with_reducible exact Cov.pure' trivial | with_reducible exact Cov.haltS | with_reducible exact Cov.haltU | with_reducible exact Cov.haltP | with_reducible exact Cov.stuck | with_reducible exact Cov.unsup | with_reducible exact Cov.goPanic | with_reducible exact Cov.choose (fun _ => trivial) | with_reducible exact c_bool _ | with_reducible exact c_stringOp _ _ _ | (with_reducible refine Cov.bind (L := T) ?_ (fun _ _ => ?_)) | (with_reducible refine Cov.ite (fun _ => ?_) (fun _ => ?_)) | split | (dsimp only))

theorem c_max2 (x y : Value) : Cov P q T (Builtin.max2 x y) (Builtin.max2 x y) := by
  unfold Builtin.max2
  repeat' (first | with_reducible exact Cov.pure trivial | with_reducible exact Cov.pure' trivial | with_reducible exact Cov.haltS | with_reducible exact Cov.haltU | with_reducible exact Cov.haltP | with_reducible exact Cov.stuck | with_reducible exact Cov.unsup | with_reducible exact Cov.goPanic | with_reducible exact Cov.choose (fun _ => trivial) | with_reducible exact c_bool _ | with_reducible exact c_stringOp _ _ _ | (with_reducible refine Cov.bind (L := T) ?_ (fun _ _ => ?_)) | (with_reducible refine Cov.ite (fun _ => ?_) (fun _ => ?_)) | split | (dsimp only))

theorem c_min (ts : Array TypeId) (t : TypeId) (vs : Array Value) : Cov P q T (Builtin.min_ ts t vs) (Builtin.min_ ts t vs) := by
  unfold Builtin.min_
  repeat' (first | with_reducible exact Cov.pure trivial | with_reducible exact Cov.pure' trivial | with_reducible exact Cov.haltS | with_reducible exact Cov.haltU | with_reducible exact Cov.haltP | with_reducible exact Cov.stuck | with_reducible exact Cov.unsup | with_reducible exact Cov.goPanic | with_reducible exact covFoldM _ _ (fun _ _ => c_min2 _ _) _ | (with_reducible refine Cov.bind (L := T) ?_ (fun _ _ => ?_)) | (with_reducible refine Cov.ite (fun _ => ?_) (fun _ => ?_)) | split | (dsimp only))

theorem c_max (ts : Array TypeId) (t : TypeId) (vs : Array Value) : Cov P q T (Builtin.max_ ts t vs) (Builtin.max_ ts t vs) := by
  unfold Builtin.max_
  repeat' (first | with_reducible exact Cov.pure trivial | with_reducible exact Cov.pure' trivial | with_reducible exact Cov.haltS | with_reducible exact Cov.haltU | with_reducible exact Cov.haltP | with_reducible exact Cov.stuck | with_reducible exact Cov.unsup | with_reducible exact Cov.goPanic | with_reducible exact covFoldM _ _ (fun _ _ => c_max2 _ _) _ | (with_reducible refine Cov.bind (L := T) ?_ (fun _ _ => ?_)) | (with_reducible refine Cov.ite (fun _ => ?_) (fun _ => ?_)) | split | (dsimp only))

theorem c_aread (t : Extern.Atomic.T) (a : Addr) : Cov P q T (Extern.Atomic.read t a) (Extern.Atomic.read t a) := by
  unfold Extern.Atomic.read
  repeat' (first | with_reducible exact Cov.pure trivial | with_reducible exact Cov.pure' trivial | with_reducible exact Cov.haltS | with_reducible exact Cov.haltU | with_reducible exact Cov.haltP | with_reducible exact Cov.stuck | with_reducible exact Cov.unsup | with_reducible exact Cov.goPanic | with_reducible exact Cov.load (fun _ => trivial) | (with_reducible refine Cov.bind (L := T) ?_ (fun _ _ => ?_)) | (with_reducible refine Cov.ite (fun _ => ?_) (fun _ => ?_)) | split | (dsimp only))

theorem c_loadT (t : Extern.Atomic.T) (vs : Array Value) : Cov P false T (Extern.Atomic.loadT t vs) (Extern.Atomic.loadT t vs) := by
  obtain ⟨l⟩ := vs
  match l with
  | [] => exact Cov.stuck
  | [a] => exact Cov.bind (L := T) (c_asAddr a) fun _ _ => c_aread _ _
  | _ :: _ :: _ => exact Cov.stuck
theorem c_storeT (vs : Array Value) : Cov P false T (Extern.Atomic.storeT vs) (Extern.Atomic.storeT vs) := by
  obtain ⟨l⟩ := vs
  match l with
  | [] => exact Cov.stuck
  | [_] => exact Cov.stuck
  | [a, b] => exact Cov.bind (L := T) (c_asAddr a) fun _ _ => Cov.bind (L := T) (Cov.store trivial) fun _ _ => Cov.pure trivial
  | _ :: _ :: _ :: _ => exact Cov.stuck
theorem c_updateA (k : IntKind) (b : Bool) (vs : Array Value) : Cov P false T (Extern.Atomic.update (Op.intArith .add) k b vs) (Extern.Atomic.update (Op.intArith .add) k b vs) := by
  obtain ⟨l⟩ := vs
  match l with
  | [] => exact Cov.stuck
  | [_] => exact Cov.stuck
  | [a, y] =>
    refine Cov.bind (L := T) (c_asAddr a) fun _ _ => Cov.bind (L := T) (c_aread _ _) fun _ _ => Cov.bind (L := T) (c_int _) fun _ _ => Cov.bind (L := T) (c_int _) fun _ _ => Cov.bind (L := T) (c_intArith _ _ _ _) fun _ _ => Cov.bind (L := T) (Cov.store trivial) fun _ _ => ?_
    exact Cov.pure trivial
  | _ :: _ :: _ :: _ => exact Cov.stuck
theorem c_anyFrozen {α : Type} {L : α → Prop} (f : Nat → Addr) {K : Bool → Sem α} {h : Halt} (hh : Gone h) (hd : K true = Sem.halt h) (hk : Cov P q L (K false) (K false)) :
    ∀ l : List Nat, Cov P q L (l.anyM (fun i => Go.frozen (f i)) >>= K) (l.anyM (fun i => Go.frozen (f i)) >>= K)
  | [] => by simp only [List.anyM]; rw [pure_bind]; exact hk
  | x :: l => by
    have ih := c_anyFrozen f hh hd hk l
    simp only [List.anyM]
    rw [bind_assoc]
    refine Cov.frozen2 fun b b' hb => ?_
    cases b' with
    | true => show Cov P q L (Pure.pure true >>= K) _; rw [pure_bind, hd]; exact Cov.dead hh
    | false =>
      have : b = false := by cases b with | false => rfl | true => exact absurd (hb rfl) (by simp)
      subst this; exact ih
theorem c_touches {α : Type} {L : α → Prop} (a : Addr) {K : Bool → Sem α} {h : Halt} (hh : Gone h) (hd : K true = Sem.halt h) (hk : Cov P q L (K false) (K false)) :
    Cov P q L (Extern.Atomic.touchesFrozen a >>= K) (Extern.Atomic.touchesFrozen a >>= K) := by
  unfold Extern.Atomic.touchesFrozen
  rw [bind_assoc]
  refine Cov.bind (L := T) (c_viewAt _) fun v _ => ?_
  cases v with
  | none =>
    refine Cov.frozen2 fun b b' hb => ?_
    cases b' with
    | true => rw [hd]; exact Cov.dead hh
    | false =>
      have : b = false := by cases b with | false => rfl | true => exact absurd (hb rfl) (by simp)
      subst this; exact hk
  | some x =>
    obtain ⟨at_, aq⟩ := x
    dsimp only
    rw [bind_assoc]
    refine Cov.bind (L := T) (c_info _) fun i _ => ?_
    split
    · rw [bind_assoc]; exact Cov.bind (L := T) Cov.unsup fun _ _ => c_anyFrozen _ hh hd hk _
    · exact c_anyFrozen _ hh hd hk _
theorem c_casT (t : Extern.Atomic.T) (vs : Array Value) : Cov P false T (Extern.Atomic.casT t vs) (Extern.Atomic.casT t vs) := by
  obtain ⟨l⟩ := vs
  match l with
  | [] => exact Cov.stuck
  | [_] => exact Cov.stuck
  | [_, _] => exact Cov.stuck
  | [addr, old, new] =>
    refine Cov.bind (L := T) (c_asAddr addr) fun a _ => ?_
    refine c_touches a (h := .unsupported (.unsafePointer "a write to bytes that a string shares")) trivial rfl ?_
    refine Cov.bind (L := T) (c_aread t a) fun v _ => ?_
    repeat' (first | with_reducible exact Cov.pure trivial | with_reducible exact Cov.pure' trivial | with_reducible exact Cov.haltS | with_reducible exact Cov.haltU | with_reducible exact Cov.haltP | with_reducible exact Cov.stuck | with_reducible exact Cov.unsup | with_reducible exact Cov.goPanic | with_reducible exact c_samePtr _ _ | with_reducible exact Cov.store trivial | (with_reducible refine Cov.bind (L := T) ?_ (fun _ _ => ?_)) | (with_reducible refine Cov.ite (fun _ => ?_) (fun _ => ?_)) | split | (dsimp only))
  | _ :: _ :: _ :: _ :: _ => exact Cov.stuck
theorem c_underIs {t : TypeId} {d : TypeDesc} (h : P.underlying t = some d) : Cov P q (fun x => x = d) (Go.underlying t) (Go.underlying t) := by
  unfold Go.underlying
  refine Cov.bind (L := fun p => p = P) (Cov.program rfl) fun p hp => ?_
  subst hp
  rw [h]; exact Cov.pure rfl
theorem c_convInt {src dst : TypeId} {j k : IntKind} (hs : P.underlying src = some (.int j)) (hd : P.underlying dst = some (.int k)) (x : Value) : Cov P q T (Go.convert src dst x) (Go.convert src dst x) := by
  unfold Go.convert
  refine Cov.bind (c_underIs hs) fun s hs' => ?_
  refine Cov.bind (c_underIs hd) fun d hd' => ?_
  subst hs' hd'
  have hf : ∀ f b, Cov P q T (Conv.floatToInt f b k) (Conv.floatToInt f b k) := fun f b => by
    unfold Conv.floatToInt
    repeat' (first | with_reducible exact Cov.pure trivial | with_reducible exact Cov.pure' trivial | with_reducible exact Cov.haltS | with_reducible exact Cov.haltU | with_reducible exact Cov.haltP | with_reducible exact Cov.stuck | with_reducible exact Cov.unsup | with_reducible exact Cov.goPanic | with_reducible exact Cov.choose (fun _ => trivial) | (with_reducible refine Cov.bind (L := T) ?_ (fun _ _ => ?_)) | (with_reducible refine Cov.ite (fun _ => ?_) (fun _ => ?_)) | split | (dsimp only))
  cases x with
  | int l n => exact Cov.pure trivial
  | float f b => exact hf f b
  | pointer a => cases a <;> exact Cov.unsup
  | _ => exact Cov.unsup

end
end Go.Tre
