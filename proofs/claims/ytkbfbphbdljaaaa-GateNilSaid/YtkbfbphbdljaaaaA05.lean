/- Texts of one proof, joined: each says what it proves. Every premise stands in the statements. -/
import Derived.Test.YtkbfbphbdljaaaaA04
import Derived.Control
/- Cov of a whole operation of plain code; which operations and which code are plain. Every premise stands in the statements. -/
set_option linter.unusedSimpArgs false
set_option linter.unusedVariables false
set_option maxHeartbeats 1000000
namespace Go.Tre
variable [Base]

/-- Plain operations: no communication, no go, no defer, no recover, no call but of the functions in S (with a body) and E (without one). -/
def okOp (P : Program) (S E : FuncId → Bool) : Op → Bool
  | .move _ | .assign _ | .pick .. | .alloc _ | .box .. | .build .. | .buildSlice .. | .load .. | .store .. | .nilCheck _ | .binOp .. | .unOp .. | .makeInterface .. | .makeFunc .. | .makeMap .. | .makeChan ..
  | .makeSlice .. | .slice .. | .fieldAddr .. | .field .. | .indexAddr .. | .index .. | .lookup .. | .mapUpdate .. | .extract .. => true
  | .convert s d _ => match P.underlying s, P.underlying d with | some (.int _), some (.int _) => true | _, _ => false
  | .call { callee := .builtin b, .. } => match b with | .len | .cap | .append | .min | .max | .copy => true | _ => false
  | .call { callee := .value (.func f), .. } => S f || E f
  | _ => false
def okCode (P : Program) (S E : FuncId → Bool) : Code → Bool
  | .skip | .exit _ | .label _ | .goto _ | .ret | .refuse _ => true
  | .region _ ops _ => ops.all fun o => okOp P S E o.op
  | .seq a b => okCode P S E a && okCode P S E b
  | .cond _ a b => okCode P S E a && okCode P S E b
  | .block _ c | .loop c | .scope c => okCode P S E c
  | .rangeFunc .. => false
structure Plain (P : Program) (S E : FuncId → Bool) : Prop where
  body : ∀ f, S f = true → ∃ fn c, P.funcs[f]? = some fn ∧ (fn.name == "runtime.NumGoroutine") = false ∧ fn.body = some c ∧ okCode P S E c = true
  ext : ∀ f, E f = true → ∃ fn e, P.funcs[f]? = some fn ∧ (fn.name == "runtime.NumGoroutine") = false ∧ fn.body.isNone = true ∧ Extern.findNext fn = none ∧ Extern.find fn = some e ∧ ∀ args, Cov P false T (e args) (e args)
  early : ∀ (fr : Frame) (cs : List Frame) (g : Nat) (w : World), ∃ o w', Go.early P fr cs none g w = .ended o w'

section
variable {P : Program} {q : Bool}

theorem c_partAt (a : Addr) (c b : Nat) : Cov P q T (Go.partAt a c b) (Go.partAt a c b) := by
  unfold Go.partAt
  repeat' (first | with_reducible exact Cov.pure trivial | with_reducible exact Cov.pure' trivial | with_reducible exact Cov.haltS | with_reducible exact Cov.haltU | with_reducible exact Cov.haltP | with_reducible exact Cov.stuck | with_reducible exact Cov.unsup | with_reducible exact Cov.goPanic | with_reducible exact c_byteOf _ | (with_reducible refine Cov.bind (L := T) ?_ (fun _ _ => ?_)) | (with_reducible refine Cov.ite (fun _ => ?_) (fun _ => ?_)) | split | (dsimp only))

theorem c_fieldPlace (a : Addr) (f : Field) : Cov P q T (Go.fieldPlace a f) (Go.fieldPlace a f) := by
  unfold Go.fieldPlace
  repeat' (first | with_reducible exact Cov.pure trivial | with_reducible exact Cov.pure' trivial | with_reducible exact Cov.haltS | with_reducible exact Cov.haltU | with_reducible exact Cov.haltP | with_reducible exact Cov.stuck | with_reducible exact Cov.unsup | with_reducible exact Cov.goPanic | with_reducible exact c_size _ | with_reducible exact c_partAt _ _ _ | (with_reducible refine Cov.bind (L := T) ?_ (fun _ _ => ?_)) | (with_reducible refine Cov.ite (fun _ => ?_) (fun _ => ?_)) | split | (dsimp only))

theorem c_fieldAt (t : TypeId) (v : Value) (f : Nat) : Cov P q T (Instr.fieldAt t v f) (Instr.fieldAt t v f) := by
  unfold Instr.fieldAt
  repeat' (first | with_reducible exact Cov.pure trivial | with_reducible exact Cov.pure' trivial | with_reducible exact Cov.haltS | with_reducible exact Cov.haltU | with_reducible exact Cov.haltP | with_reducible exact Cov.stuck | with_reducible exact Cov.unsup | with_reducible exact Cov.goPanic | with_reducible exact c_under _ | with_reducible exact c_sure _ | with_reducible exact c_fieldPlace _ _ | (with_reducible refine Cov.bind (L := T) ?_ (fun _ _ => ?_)) | (with_reducible refine Cov.ite (fun _ => ?_) (fun _ => ?_)) | split | (dsimp only))

theorem c_followBlind : ∀ (l : List FieldStep) (t : TypeId) (x : Option Value), Cov P q T (Go.followBlind l t x) (Go.followBlind l t x)
  | [], t, x => by unfold Go.followBlind; exact Cov.pure trivial
  | s :: rest, t, x => by
    have ih := c_followBlind rest
    unfold Go.followBlind
    repeat' (first | with_reducible exact Cov.pure trivial | with_reducible exact Cov.pure' trivial | with_reducible exact Cov.haltS | with_reducible exact Cov.haltU | with_reducible exact Cov.haltP | with_reducible exact Cov.stuck | with_reducible exact Cov.unsup | with_reducible exact Cov.goPanic | with_reducible exact ih _ _ | with_reducible exact c_under _ | with_reducible exact c_part _ _ _ | (with_reducible refine Cov.bind (L := T) ?_ (fun _ _ => ?_)) | (with_reducible refine Cov.ite (fun _ => ?_) (fun _ => ?_)) | split | (dsimp only))

theorem c_nilAhead : ∀ (n : Nat) (t : TypeId) (v : Value) (s : String), Cov P q T (Go.nilAhead n t v s) (Go.nilAhead n t v s)
  | 0, t, v, s => by unfold Go.nilAhead; exact Cov.pure trivial
  | n + 1, t, v, s => by
    have ih := c_nilAhead n
    unfold Go.nilAhead
    repeat' (first | with_reducible exact Cov.pure trivial | with_reducible exact Cov.pure' trivial | with_reducible exact Cov.haltS | with_reducible exact Cov.haltU | with_reducible exact Cov.haltP | with_reducible exact Cov.stuck | with_reducible exact Cov.unsup | with_reducible exact Cov.goPanic | with_reducible exact ih _ _ _ | with_reducible exact c_under _ | with_reducible exact c_info _ | with_reducible exact c_followBlind _ _ _ | (with_reducible refine Cov.bind (L := T) ?_ (fun _ _ => ?_)) | (with_reducible refine Cov.ite (fun _ => ?_) (fun _ => ?_)) | split | (dsimp only))


theorem c_results (fn : Func) (tmps : Array Value) : Cov P false T (Go.results fn tmps) (Go.results fn tmps) := by
  unfold Go.results
  refine Cov.bind (L := T) (covArrayM _ _ fun r => ?_) fun _ _ => Cov.pure trivial
  cases r with
  | tmp t => exact Cov.pure trivial
  | cell a t => exact Cov.bind (L := T) (c_asAddr _) fun _ _ => c_loadVar _ _

/-- What a plain operation comes to. -/
def Mild (S : FuncId → Bool) : Next → Prop
  | .value _ => True
  | .skip => True
  | .enter f _ => S f = true
  | _ => False
theorem c_v {S : FuncId → Bool} {s : Sem Value} (h : Cov P false T s s) : Cov P false (Mild S) (do pure (.value (← s)) : Sem Next) (do pure (.value (← s))) := Cov.bind h fun _ _ => Cov.pure trivial
theorem c_u {S : FuncId → Bool} {s : Sem Unit} (h : Cov P false T s s) : Cov P false (Mild S) (do s; pure .skip : Sem Next) (do s; pure .skip) := Cov.bind h fun _ _ => Cov.pure trivial
theorem c_nilCheck {S : FuncId → Bool} (x : Value) : Cov P false (Mild S) (match x with
    | .pointer none | .nilIface | .nilFunc => runtimePanic .nilDeref
    | .func (.method name) first captured =>
      match (first[0]? : Option Value) with
      | some .nilIface => runtimePanic .nilDeref
      | some (.iface t w) => do
        if (← nilAhead ((← program).types.size + Made.depth) t w name) != some false then
          unsupported (.noEntry "op/nilCheck.the method's receiver behind this interface value is a nil pointer, or cannot be seen to be none, and the arguments act or may panic (ledger 612)")
        pure (.value (.func (.method name) first captured))
      | _ => pure (.value (.func (.method name) first captured))
    | x => pure (.value x) : Sem Next) (match x with
    | .pointer none | .nilIface | .nilFunc => runtimePanic .nilDeref
    | .func (.method name) first captured =>
      match (first[0]? : Option Value) with
      | some .nilIface => runtimePanic .nilDeref
      | some (.iface t w) => do
        if (← nilAhead ((← program).types.size + Made.depth) t w name) != some false then
          unsupported (.noEntry "op/nilCheck.the method's receiver behind this interface value is a nil pointer, or cannot be seen to be none, and the arguments act or may panic (ledger 612)")
        pure (.value (.func (.method name) first captured))
      | _ => pure (.value (.func (.method name) first captured))
    | x => pure (.value x)) := by
  split
  · exact c_rtPanic _
  · exact c_rtPanic _
  · exact c_rtPanic _
  · split
    · exact c_rtPanic _
    · refine Cov.bind (L := T) (Cov.program trivial) fun p _ => Cov.bind (L := T) (c_nilAhead _ _ _ _) fun _ _ => ?_
      split
      · exact Cov.bind (L := T) Cov.unsup fun _ _ => Cov.pure trivial
      · exact Cov.pure trivial
    · exact Cov.pure trivial
  · exact Cov.pure trivial

theorem c_call {S E : FuncId → Bool} (hP : Plain P S E) (f : FuncId) (h : (S f || E f) = true) (args : Array Value) : Cov P false (Mild S) (Go.callFunc f args) (Go.callFunc f args) := by
  unfold Go.callFunc
  refine Cov.bind (L := fun p => p = P) (Cov.program rfl) fun p hp => ?_
  subst hp
  rcases Bool.or_eq_true _ _ ▸ h with h | h
  · obtain ⟨fn, c, h1, h2, h3, _⟩ := hP.body f h
    have h4 : fn.body.isNone = false := by rw [h3]; rfl
    simp only [h1, h2, h4, Bool.false_eq_true, if_false]
    exact Cov.pure h
  · obtain ⟨fn, e, h1, h2, h3, h4, h5, h6⟩ := hP.ext f h
    simp only [h1, h2, h3, h4, h5, Bool.false_eq_true, if_false, if_true]
    exact Cov.bind (L := T) (Cov.markExtern trivial) fun _ _ => c_v (h6 args)

theorem c_exec {S E : FuncId → Bool} (hP : Plain P S E) (a : Act) (o : Oper) (h : okOp P S E o.op = true) : Cov P false (Mild S) (execOp a.eval o) (execOp a.eval o) := by
  unfold execOp
  cases e : o.op <;> rw [e] at h <;> simp only [okOp, Bool.false_eq_true] at h <;> dsimp only
  case move => exact Cov.pure trivial
  case assign => exact Cov.pure trivial
  case pick => exact Cov.bind (L := T) (c_bool _) fun _ _ => Cov.pure trivial
  case alloc => exact c_v (c_alloc _ _ _)
  case box => exact c_v (c_box _ _)
  case build => exact c_v (c_build _ _)
  case buildSlice => exact c_v (c_buildSlice _ _ _)
  case load => exact c_v (c_loadAt _ _)
  case store => exact c_u (c_storeAt _ _ _)
  case nilCheck => exact c_nilCheck _
  case binOp => exact c_v (Cov.bind (L := T) (c_eqGuard _ _ _ _ _ _) fun _ _ => c_binOp _ _ _ _)
  case unOp => exact c_v (c_unary _ _)
  case convert s d x =>
    split at h
    · rename_i hs hd; exact c_v (c_convInt hs hd _)
    · cases h
  case makeInterface => exact c_v (c_makeInterface _ _)
  case makeFunc => exact c_v (Cov.pure trivial)
  case makeMap => exact c_v (c_makeMap _ _)
  case makeChan => exact c_v (c_makeChan _ _)
  case makeSlice => exact c_v (c_makeSlice _ _ _)
  case slice => exact c_v (c_sliceAt _ _ _ _ _)
  case fieldAddr => exact c_v (c_fieldAt _ _ _)
  case field => exact c_v (c_field _ _ _)
  case indexAddr => exact c_v (c_indexAt _ _ _)
  case index => exact c_v (c_index _ _ _)
  case lookup => exact c_v (c_lookup _ _ _ _)
  case mapUpdate => exact c_u (c_mapUpdate _ _ _ _)
  case extract => exact c_v (c_extract _ _)
  case call c =>
    obtain ⟨callee, args, ats⟩ := c
    cases callee with
    | value f =>
      cases f with
      | func f => exact c_call hP f h _
      | _ => simp [okOp] at h
    | invoke => simp [okOp] at h
    | builtin b =>
      cases b with
      | len => exact c_v (c_len _ _ _)
      | cap => exact c_v (c_cap _ _ _)
      | append => exact c_v (c_append _ _ _)
      | min => exact c_v (c_min _ _ _)
      | max => exact c_v (c_max _ _ _)
      | copy => exact c_v (c_copy _ _ _)
      | _ => simp [okOp] at h

end
end Go.Tre
