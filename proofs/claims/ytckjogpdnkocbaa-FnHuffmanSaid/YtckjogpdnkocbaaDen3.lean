/- A part of the proof: The law FnHuffman is proved for every input: it returns true and its arguments read as before. No condition. How: an abstract run of the program (told in Lean, proved sound against the model) is computed for every drawn list of weights; that no code costs less than Huffman's, and that his fills all room, is proved in plain Lean on lists of trees. -/
import Derived.Test.YtckjogpdnkocbaaDen2
set_option linter.unusedSimpArgs false
set_option linter.unusedVariables false
namespace Go.Proofs.Ytckjogpdnkocbaa.Den
/-! Equations for simp. -/
section
variable {P : Program} {cfg : Cfg} {C : CallFn}

@[congr] theorem bindS_congr {x x' : Option (A × Heap)} {f : A → Heap → Option St} (h : x = x') : bindS x f = bindS x' f := by rw [h]
@[simp] theorem bindS_none (f : A → Heap → Option St) : bindS none f = none := rfl
@[congr] theorem bindX_congr {x x' : Option (X × St)} {f : St → Option (X × St)} (h : x = x') : bindX x f = bindX x' f := by rw [h]
@[simp] theorem bindX_none (f : St → Option (X × St)) : bindX none f = none := rfl
@[simp] theorem outB_normal (s : St) (i : Nat) : outB i (some (.normal, s)) = some (.normal, s) := rfl
@[simp] theorem outB_ret (s : St) (i : Nat) : outB i (some (.ret, s)) = some (.ret, s) := rfl
@[simp] theorem outB_exit (s : St) (i j : Nat) : outB i (some (.exit j, s)) = if j = i then some (.normal, s) else some (.exit j, s) := rfl
@[simp] theorem toX_some (s : St) : toX (some s) = some (.normal, s) := rfl
@[simp] theorem withH_some (a : A) (h : Heap) : withH (some a) h = some (a, h) := rfl
/-- What is still to run. -/
noncomputable def kont (P : Program) (cfg : Cfg) (base nt : Nat) (c : Code) (s : St) : Option (X × St) := execω P cfg base nt c s.env s.heap
noncomputable def kontS (P : Program) (cfg : Cfg) (C : CallFn) (base nt : Nat) (all : Array Oper) (rest : List Oper) (env : Env) (d : Option Tmp) (v : A) (h : Heap) : Option St := stepOps P cfg C base nt all rest (put env d v) h
theorem ω_seq' (base nt : Nat) (a b : Code) (env : Env) (h : Heap) :
    execω P cfg base nt (.seq a b) env h = bindX (execω P cfg base nt a env h) (kont P cfg base nt b) := ω_seq base nt a b env h
theorem ω_loop' (base nt : Nat) (c : Code) (env : Env) (h : Heap) :
    execω P cfg base nt (.loop c) env h = bindX (execω P cfg base nt c env h) (kont P cfg base nt (.loop c)) := ω_loop base nt c env h
@[simp] theorem bindX_kont (base nt : Nat) (c : Code) (s : St) : bindX (some (.normal, s)) (kont P cfg base nt c) = execω P cfg base nt c s.env s.heap := rfl
@[simp] theorem bindX_exit_kont (base nt : Nat) (c : Code) (s : St) (i : Nat) : bindX (some (.exit i, s)) (kont P cfg base nt c) = some (.exit i, s) := rfl
@[simp] theorem bindX_ret_kont (base nt : Nat) (c : Code) (s : St) : bindX (some (.ret, s)) (kont P cfg base nt c) = some (.ret, s) := rfl
@[simp] theorem bindS_kont (base nt : Nat) (all : Array Oper) (rest : List Oper) (env : Env) (d : Option Tmp) (v : A) (h : Heap) :
    bindS (some (v, h)) (kontS P cfg C base nt all rest env d) = stepOps P cfg C base nt all rest (put env d v) h := rfl
@[simp] theorem kont_ret (base nt : Nat) (s : St) : kont P cfg base nt .ret s = some (.ret, s) := ω_ret base nt s.env s.heap
attribute [simp ↓] ω_skip ω_exit ω_ret ω_seq' ω_block ω_region
/-- The way that a condition takes: not looked into before it is known. -/
noncomputable def condC (P : Program) (cfg : Cfg) (base nt : Nat) (t : Bool) (a b : Code) (env : Env) (h : Heap) : Option (X × St) := if t = true then execω P cfg base nt a env h else execω P cfg base nt b env h
@[simp] theorem condC_true (base nt : Nat) (a b : Code) (env : Env) (h : Heap) : condC P cfg base nt true a b env h = execω P cfg base nt a env h := rfl
@[simp] theorem condC_false (base nt : Nat) (a b : Code) (env : Env) (h : Heap) : condC P cfg base nt false a b env h = execω P cfg base nt b env h := rfl
theorem ω_condC {base nt : Nat} {c : Operand} {a b : Code} {env : Env} {h : Heap} {t : Bool} (hc : ev env c = .bool t) : execω P cfg base nt (.cond c a b) env h = condC P cfg base nt t a b env h := ω_cond base nt c a b env h hc
@[simp] theorem get_cons (k : Nat) (v : A) (r : Env) (t : Nat) : get ((k, v) :: r) t = if k = t then v else get r t := rfl
@[simp] theorem put_some (env : Env) (d : Nat) (v : A) : put env (some d) v = (d, v) :: env := rfl
@[simp] theorem put_none (env : Env) (v : A) : put env none v = env := rfl
@[simp] theorem ev_tmp (env : Env) (t : Nat) : ev env (.tmp t) = get env t := rfl
@[simp] theorem ev_int (env : Env) (k : IntKind) (n : Int) : ev env (.const (.int k n)) = .int k n := rfl
@[simp] theorem ev_bool (env : Env) (b : Bool) : ev env (.const (.bool b)) = .bool b := rfl
@[simp] theorem ev_str (env : Env) (s : ByteArray) : ev env (.const (.string s)) = .str s.data.toList := rfl
@[simp] theorem ev_func (env : Env) (f : FuncId) : ev env (.func f) = .fn f [] := rfl
@[simp] theorem ev_nilIf (env : Env) : ev env (.const .nilIface) = .nilif := rfl
@[simp] theorem ev_nilSl (env : Env) : ev env (.const (.slice none 0 0)) = .sl [] := rfl
@[simp] theorem evN_tmp (env : Env) (t : Nat) (h : Heap) : evN env (.tmp t) h = (get env t, h) := rfl
@[simp] theorem evN_int (env : Env) (k : IntKind) (n : Int) (h : Heap) : evN env (.const (.int k n)) h = (.int k n, h) := rfl
@[simp] theorem evN_bool (env : Env) (b : Bool) (h : Heap) : evN env (.const (.bool b)) h = (.bool b, h) := rfl
@[simp] theorem evN_str (env : Env) (s : ByteArray) (h : Heap) : evN env (.const (.string s)) h = (.str s.data.toList, h) := rfl
@[simp] theorem evN_func (env : Env) (f : FuncId) (h : Heap) : evN env (.func f) h = (.fn f [], h) := rfl
@[simp] theorem evN_nilIf (env : Env) (h : Heap) : evN env (.const .nilIface) h = (.nilif, h) := rfl
@[simp] theorem evN_nilSl (env : Env) (h : Heap) : evN env (.const (.slice none 0 0)) h = (.own h.length 0 0 0, h ++ [.vec 0 0 []]) := rfl
@[simp ↓] theorem ops_nil (base nt : Nat) (all : Array Oper) (env : Env) (h : Heap) : stepOps P cfg C base nt all [] env h = some ⟨env, h⟩ := rfl
@[simp ↓] theorem ops_cons (base nt : Nat) (all : Array Oper) (dst : Option Tmp) (op : Op) (ty : TypeId) (pos : String) (aft : Array Edge) (rest : List Oper) (env : Env) (h : Heap) :
    stepOps P cfg C base nt all (⟨dst, op, ty, pos, aft, none⟩ :: rest) env h = bindS (stepOp P cfg C base op env h) (kontS P cfg C base nt all rest env dst) := rfl
noncomputable def guardC (P : Program) (cfg : Cfg) (C : CallFn) (base nt : Nat) (all : Array Oper) (b : A) (want : Bool) (dst : Option Tmp) (op : Op) (rest : List Oper) (env : Env) (h : Heap) : Option St :=
  match b with
  | .bool b => if b = want then bindS (stepOp P cfg C base op env h) (kontS P cfg C base nt all rest env dst) else stepOps P cfg C base nt all rest (put env dst .undef) h
  | .undef => none
  | _ => stepOps P cfg C base nt all rest (put env dst .undef) h
theorem ops_guard (base nt : Nat) (all : List Oper) (dst : Option Tmp) (op : Op) (ty : TypeId) (pos : String) (aft : Array Edge) (j : Nat) (want : Bool) (rest : List Oper) (env : Env) (h : Heap) (d : Nat)
    (hd : (all[j]?).bind (·.dst) = some d) :
    stepOps P cfg C base nt all.toArray (⟨dst, op, ty, pos, aft, some (j, want)⟩ :: rest) env h = guardC P cfg C base nt all.toArray (get env d) want dst op rest env h := by
  simp only [stepOps, guardOk, List.getElem?_toArray, hd, guardC]
  cases get env d with
  | bool b => cases b <;> cases want <;> rfl
  | _ => rfl
@[simp] theorem guardC_tt (base nt : Nat) (all : Array Oper) (dst : Option Tmp) (op : Op) (rest : List Oper) (env : Env) (h : Heap) :
    guardC P cfg C base nt all (.bool true) true dst op rest env h = bindS (stepOp P cfg C base op env h) (kontS P cfg C base nt all rest env dst) := rfl
@[simp] theorem guardC_ff (base nt : Nat) (all : Array Oper) (dst : Option Tmp) (op : Op) (rest : List Oper) (env : Env) (h : Heap) :
    guardC P cfg C base nt all (.bool false) false dst op rest env h = bindS (stepOp P cfg C base op env h) (kontS P cfg C base nt all rest env dst) := rfl
@[simp] theorem guardC_tf (base nt : Nat) (all : Array Oper) (dst : Option Tmp) (op : Op) (rest : List Oper) (env : Env) (h : Heap) :
    guardC P cfg C base nt all (.bool true) false dst op rest env h = stepOps P cfg C base nt all rest (put env dst .undef) h := rfl
@[simp] theorem guardC_ft (base nt : Nat) (all : Array Oper) (dst : Option Tmp) (op : Op) (rest : List Oper) (env : Env) (h : Heap) :
    guardC P cfg C base nt all (.bool false) true dst op rest env h = stepOps P cfg C base nt all rest (put env dst .undef) h := rfl

@[simp] theorem step_move (base : Nat) (x : Operand) (env : Env) (h : Heap) : stepOp P cfg C base (.move x) env h = some (evN env x h) := rfl
@[simp] theorem step_assign (base : Nat) (x : Operand) (env : Env) (h : Heap) : stepOp P cfg C base (.assign x) env h = some (evN env x h) := rfl
theorem step_pick (base : Nat) (c a b : Operand) (env : Env) (h : Heap) {t : Bool} (hc : ev env c = .bool t) : stepOp P cfg C base (.pick c a b) env h = some (if t = true then ev env a else ev env b, h) := by
  simp only [stepOp, hc]
theorem step_binOp (base : Nat) (op : BinOp) (t u : TypeId) (x y : Operand) (env : Env) (h : Heap) : stepOp P cfg C base (.binOp op t x y u) env h = match binA op (ev env x) (ev env y) with
    | some a => some (a, h)
    | none => withH (eqA P op t x y (ev env x) (ev env y)) h := rfl
theorem step_unOp (base : Nat) (op : UnOp) (t : TypeId) (x : Operand) (env : Env) (h : Heap) : stepOp P cfg C base (.unOp op t x) env h = withH (unA op (ev env x)) h := rfl
theorem step_box (base : Nat) (t : TypeId) (x : Operand) (env : Env) (h : Heap) : stepOp P cfg C base (.box t x) env h = if isUndef (evN env x h).1 = true then none else some (.ptr (evN env x h).2.length 0, (evN env x h).2 ++ [.var (evN env x h).1.cells]) := rfl
@[simp] theorem step_makeFunc (base : Nat) (f : FuncId) (caps : List Operand) (env : Env) (h : Heap) : stepOp P cfg C base (.makeFunc (.func f) #[] caps.toArray) env h = some (.fn f (caps.map (ev env)), h) := rfl
theorem step_load (base : Nat) (t : TypeId) (x : Operand) (env : Env) (h : Heap) {ti : TI} (ht : tab P t = some ti) : stepOp P cfg C base (.load t x) env h = withH (loadAt ti.agg ti.size h (ev env x)) h := by
  simp only [stepOp, ht]
theorem step_len (base : Nat) (x : Operand) (ty : TypeId) (env : Env) (h : Heap) {n : Nat} {ti : TI} (ht : tab P ty = some ti) (hn : lenA (ev env x) = some n) (hl : lenTy ti (ev env x) = true) : stepOp P cfg C base (.call { callee := .builtin .len, args := #[x], argTypes := #[ty] }) env h = some (.int .i64 n, h) := by
  simp [stepOp, builtinA, hn, ht, hl]
def callV (cfg : Cfg) (C : CallFn) (x : A) (as : List A) (an : List A × Heap) (h : Heap) : Option (A × Heap) := match x with
  | .fn g caps => if cfg.byRef g = true then C g (an.1 ++ caps) an.2 else callA C g (as ++ caps) h
  | _ => none
@[simp] theorem callV_fn (cfg : Cfg) (C : CallFn) (g : FuncId) (caps as : List A) (an : List A × Heap) (h : Heap) : callV cfg C (.fn g caps) as an h = if cfg.byRef g = true then C g (an.1 ++ caps) an.2 else callA C g (as ++ caps) h := rfl
@[simp] theorem step_call (base : Nat) (f : Operand) (args : List Operand) (tys : Array TypeId) (env : Env) (h : Heap) :
    stepOp P cfg C base (.call { callee := .value f, args := args.toArray, argTypes := tys }) env h = callV cfg C (ev env f) (args.map (ev env)) (evNs env args h) h := by
  simp only [stepOp, List.toList_toArray]
  cases ev env f <;> rfl
def idxA (size : Option Nat) (h : Heap) (x i : A) : Option (A × Heap) := match size, i with
  | some size, .int _ n => withH (indexA size h x n) h
  | _, _ => none
@[simp] theorem idxA_some (size : Nat) (h : Heap) (x : A) (k : IntKind) (n : Int) : idxA (some size) h x (.int k n) = withH (indexA size h x n) h := rfl
@[simp] theorem step_indexAddr (base : Nat) (t : TypeId) (x i : Operand) (env : Env) (h : Heap) :
    stepOp P cfg C base (.indexAddr t x i) env h = idxA (elemSz P t) h (ev env x) (ev env i) := by
  simp only [stepOp]
  cases elemSz P t <;> cases ev env i <;> rfl
theorem i64_in {n : Int} (h0 : -9223372036854775808 ≤ n) (h1 : n ≤ 9223372036854775807) : IntKind.i64.wrap n = n := by
  simp [IntKind.wrap, IntKind.bits, IntKind.signed]; split <;> omega
/-- The loops of a function, in the order of the text. -/
def loops : Code → List Code
  | .seq a b => loops a ++ loops b
  | .cond _ a b => loops a ++ loops b
  | .block _ c => loops c
  | .loop c => .loop c :: loops c
  | _ => []
def lp (f : Func) (k : Nat) : Code := match f.body with
  | some c => (loops c).getD k .skip
  | none => .skip
end
end Go.Proofs.Ytckjogpdnkocbaa.Den
