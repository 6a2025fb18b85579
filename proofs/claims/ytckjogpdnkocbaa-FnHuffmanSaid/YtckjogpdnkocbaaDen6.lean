/- A part of the proof: The law FnHuffman is proved for every input: it returns true and its arguments read as before. No condition. How: an abstract run of the program (told in Lean, proved sound against the model) is computed for every drawn list of weights; that no code costs less than Huffman's, and that his fills all room, is proved in plain Lean on lists of trees. -/
import Derived.Test.YtckjogpdnkocbaaDen5
set_option linter.unusedSimpArgs false
set_option linter.unusedVariables false
namespace Go.Proofs.Ytckjogpdnkocbaa.Den
/-! The step lemmas as equations without side conditions, for simp. -/
section
variable {P : Program} {cfg : Cfg} {C : CallFn}

attribute [simp] initEnv setCells frzL escL resVals retAs retL snaps snapL killAll virtL evNs evParts foldA rowsOfParts buildA zeroRows
@[simp] theorem cells_undef  : A.cells .undef = [.undef] := rfl
@[simp] theorem undefB_undef  : isUndef .undef = true := rfl
@[simp] theorem shift_undef (q : Nat)  : shift q .undef = .undef := rfl
@[simp] theorem shiftA_undef (q : Nat)  : shiftA q .undef = .undef := rfl
@[simp] theorem shift1_undef (q : Nat)  : shift1 q .undef = .undef := rfl
@[simp] theorem retA_undef (ow : Bool) (bs : Nat) (h new : Heap)  : retA ow bs h new .undef = ret1 ow bs h new .undef := rfl
@[simp] theorem snap_undef (h : Heap)  : snap h .undef = snap1 h .undef := rfl
@[simp] theorem pureA_undef  : pureA .undef = pure1 .undef := rfl
@[simp] theorem flatA_undef  : flatA .undef = flat1 .undef := rfl
@[simp] theorem flatR_undef  : flatR .undef = flatA .undef := rfl
@[simp] theorem pure1_undef  : pure1 .undef = false := rfl
@[simp] theorem flat1_undef  : flat1 .undef = true := rfl
@[simp] theorem snap1_undef (h : Heap)  : snap1 h .undef = some (.undef, []) := rfl
@[simp] theorem stor1_undef  : stor1 .undef = false := rfl
@[simp] theorem cells_bool (b : Bool) : A.cells (.bool b) = [(.bool b)] := rfl
@[simp] theorem undefB_bool (b : Bool) : isUndef (.bool b) = false := rfl
@[simp] theorem shift_bool (q : Nat) (b : Bool) : shift q (.bool b) = (.bool b) := rfl
@[simp] theorem shiftA_bool (q : Nat) (b : Bool) : shiftA q (.bool b) = (.bool b) := rfl
@[simp] theorem shift1_bool (q : Nat) (b : Bool) : shift1 q (.bool b) = (.bool b) := rfl
@[simp] theorem retA_bool (ow : Bool) (bs : Nat) (h new : Heap) (b : Bool) : retA ow bs h new (.bool b) = ret1 ow bs h new (.bool b) := rfl
@[simp] theorem snap_bool (h : Heap) (b : Bool) : snap h (.bool b) = snap1 h (.bool b) := rfl
@[simp] theorem pureA_bool (b : Bool) : pureA (.bool b) = pure1 (.bool b) := rfl
@[simp] theorem flatA_bool (b : Bool) : flatA (.bool b) = flat1 (.bool b) := rfl
@[simp] theorem flatR_bool (b : Bool) : flatR (.bool b) = flatA (.bool b) := rfl
@[simp] theorem pure1_bool (b : Bool) : pure1 (.bool b) = true := rfl
@[simp] theorem flat1_bool (b : Bool) : flat1 (.bool b) = true := rfl
@[simp] theorem snap1_bool (h : Heap) (b : Bool) : snap1 h (.bool b) = some ((.bool b), []) := rfl
@[simp] theorem stor1_bool (b : Bool) : stor1 (.bool b) = true := rfl
@[simp] theorem ret1_bool (ow : Bool) (bs : Nat) (h new : Heap) (b : Bool) : ret1 ow bs h new (.bool b) = some ((.bool b), h, new) := rfl
@[simp] theorem frz1_bool (h : Heap) (b : Bool) : frz1 h (.bool b) = some ((.bool b), h) := rfl
@[simp] theorem cells_int (k : IntKind) (n : Int) : A.cells (.int k n) = [(.int k n)] := rfl
@[simp] theorem undefB_int (k : IntKind) (n : Int) : isUndef (.int k n) = false := rfl
@[simp] theorem shift_int (q : Nat) (k : IntKind) (n : Int) : shift q (.int k n) = (.int k n) := rfl
@[simp] theorem shiftA_int (q : Nat) (k : IntKind) (n : Int) : shiftA q (.int k n) = (.int k n) := rfl
@[simp] theorem shift1_int (q : Nat) (k : IntKind) (n : Int) : shift1 q (.int k n) = (.int k n) := rfl
@[simp] theorem retA_int (ow : Bool) (bs : Nat) (h new : Heap) (k : IntKind) (n : Int) : retA ow bs h new (.int k n) = ret1 ow bs h new (.int k n) := rfl
@[simp] theorem snap_int (h : Heap) (k : IntKind) (n : Int) : snap h (.int k n) = snap1 h (.int k n) := rfl
@[simp] theorem pureA_int (k : IntKind) (n : Int) : pureA (.int k n) = pure1 (.int k n) := rfl
@[simp] theorem flatA_int (k : IntKind) (n : Int) : flatA (.int k n) = flat1 (.int k n) := rfl
@[simp] theorem flatR_int (k : IntKind) (n : Int) : flatR (.int k n) = flatA (.int k n) := rfl
@[simp] theorem pure1_int (k : IntKind) (n : Int) : pure1 (.int k n) = true := rfl
@[simp] theorem flat1_int (k : IntKind) (n : Int) : flat1 (.int k n) = true := rfl
@[simp] theorem snap1_int (h : Heap) (k : IntKind) (n : Int) : snap1 h (.int k n) = some ((.int k n), []) := rfl
@[simp] theorem stor1_int (k : IntKind) (n : Int) : stor1 (.int k n) = true := rfl
@[simp] theorem ret1_int (ow : Bool) (bs : Nat) (h new : Heap) (k : IntKind) (n : Int) : ret1 ow bs h new (.int k n) = some ((.int k n), h, new) := rfl
@[simp] theorem frz1_int (h : Heap) (k : IntKind) (n : Int) : frz1 h (.int k n) = some ((.int k n), h) := rfl
@[simp] theorem cells_str (s : List UInt8) : A.cells (.str s) = [(.str s)] := rfl
@[simp] theorem undefB_str (s : List UInt8) : isUndef (.str s) = false := rfl
@[simp] theorem shift_str (q : Nat) (s : List UInt8) : shift q (.str s) = (.str s) := rfl
@[simp] theorem shiftA_str (q : Nat) (s : List UInt8) : shiftA q (.str s) = (.str s) := rfl
@[simp] theorem shift1_str (q : Nat) (s : List UInt8) : shift1 q (.str s) = (.str s) := rfl
@[simp] theorem retA_str (ow : Bool) (bs : Nat) (h new : Heap) (s : List UInt8) : retA ow bs h new (.str s) = ret1 ow bs h new (.str s) := rfl
@[simp] theorem snap_str (h : Heap) (s : List UInt8) : snap h (.str s) = snap1 h (.str s) := rfl
@[simp] theorem pureA_str (s : List UInt8) : pureA (.str s) = pure1 (.str s) := rfl
@[simp] theorem flatA_str (s : List UInt8) : flatA (.str s) = flat1 (.str s) := rfl
@[simp] theorem flatR_str (s : List UInt8) : flatR (.str s) = flatA (.str s) := rfl
@[simp] theorem pure1_str (s : List UInt8) : pure1 (.str s) = true := rfl
@[simp] theorem flat1_str (s : List UInt8) : flat1 (.str s) = true := rfl
@[simp] theorem snap1_str (h : Heap) (s : List UInt8) : snap1 h (.str s) = some ((.str s), []) := rfl
@[simp] theorem stor1_str (s : List UInt8) : stor1 (.str s) = true := rfl
@[simp] theorem ret1_str (ow : Bool) (bs : Nat) (h new : Heap) (s : List UInt8) : ret1 ow bs h new (.str s) = some ((.str s), h, new) := rfl
@[simp] theorem frz1_str (h : Heap) (s : List UInt8) : frz1 h (.str s) = some ((.str s), h) := rfl
@[simp] theorem cells_sl (rows : List (List A)) : A.cells (.sl rows) = [(.sl rows)] := rfl
@[simp] theorem undefB_sl (rows : List (List A)) : isUndef (.sl rows) = false := rfl
@[simp] theorem shift_sl (q : Nat) (rows : List (List A)) : shift q (.sl rows) = (.sl rows) := rfl
@[simp] theorem shiftA_sl (q : Nat) (rows : List (List A)) : shiftA q (.sl rows) = (.sl rows) := rfl
@[simp] theorem shift1_sl (q : Nat) (rows : List (List A)) : shift1 q (.sl rows) = (.sl rows) := rfl
@[simp] theorem retA_sl (ow : Bool) (bs : Nat) (h new : Heap) (rows : List (List A)) : retA ow bs h new (.sl rows) = ret1 ow bs h new (.sl rows) := rfl
@[simp] theorem snap_sl (h : Heap) (rows : List (List A)) : snap h (.sl rows) = snap1 h (.sl rows) := rfl
@[simp] theorem pureA_sl (rows : List (List A)) : pureA (.sl rows) = pure1 (.sl rows) := rfl
@[simp] theorem flatA_sl (rows : List (List A)) : flatA (.sl rows) = flat1 (.sl rows) := rfl
@[simp] theorem flatR_sl (rows : List (List A)) : flatR (.sl rows) = flatA (.sl rows) := rfl
@[simp] theorem pure1_sl (rows : List (List A)) : pure1 (.sl rows) = true := rfl
@[simp] theorem flat1_sl (rows : List (List A)) : flat1 (.sl rows) = false := rfl
@[simp] theorem snap1_sl (h : Heap) (rows : List (List A)) : snap1 h (.sl rows) = some ((.sl rows), []) := rfl
@[simp] theorem stor1_sl (rows : List (List A)) : stor1 (.sl rows) = true := rfl
@[simp] theorem ret1_sl (ow : Bool) (bs : Nat) (h new : Heap) (rows : List (List A)) : ret1 ow bs h new (.sl rows) = some ((.sl rows), h, new) := rfl
@[simp] theorem frz1_sl (h : Heap) (rows : List (List A)) : frz1 h (.sl rows) = some ((.sl rows), h) := rfl
@[simp] theorem cells_own (b ver off n : Nat) : A.cells (.own b ver off n) = [(.own b ver off n)] := rfl
@[simp] theorem undefB_own (b ver off n : Nat) : isUndef (.own b ver off n) = false := rfl
@[simp] theorem shift_own (q : Nat) (b ver off n : Nat) : shift q (.own b ver off n) = .own (q + b) ver off n := rfl
@[simp] theorem shiftA_own (q : Nat) (b ver off n : Nat) : shiftA q (.own b ver off n) = .own (q + b) ver off n := rfl
@[simp] theorem shift1_own (q : Nat) (b ver off n : Nat) : shift1 q (.own b ver off n) = .own (q + b) ver off n := rfl
@[simp] theorem retA_own (ow : Bool) (bs : Nat) (h new : Heap) (b ver off n : Nat) : retA ow bs h new (.own b ver off n) = ret1 ow bs h new (.own b ver off n) := rfl
@[simp] theorem snap_own (h : Heap) (b ver off n : Nat) : snap h (.own b ver off n) = snap1 h (.own b ver off n) := rfl
@[simp] theorem pureA_own (b ver off n : Nat) : pureA (.own b ver off n) = pure1 (.own b ver off n) := rfl
@[simp] theorem flatA_own (b ver off n : Nat) : flatA (.own b ver off n) = flat1 (.own b ver off n) := rfl
@[simp] theorem flatR_own (b ver off n : Nat) : flatR (.own b ver off n) = flatA (.own b ver off n) := rfl
@[simp] theorem pure1_own (b ver off n : Nat) : pure1 (.own b ver off n) = false := rfl
@[simp] theorem flat1_own (b ver off n : Nat) : flat1 (.own b ver off n) = true := rfl
@[simp] theorem stor1_own (b ver off n : Nat) : stor1 (.own b ver off n) = true := rfl
@[simp] theorem cells_agg (cs : List A) : A.cells (.agg cs) = cs := rfl
@[simp] theorem undefB_agg (cs : List A) : isUndef (.agg cs) = false := rfl
@[simp] theorem shift_agg (q : Nat) (cs : List A) : shift q (.agg cs) = shiftA q (.agg cs) := rfl
@[simp] theorem shiftA_agg (q : Nat) (cs : List A) : shiftA q (.agg cs) = (.agg (cs.map (shift1 q))) := rfl
@[simp] theorem shift1_agg (q : Nat) (cs : List A) : shift1 q (.agg cs) = (.agg cs) := rfl
@[simp] theorem retA_agg (ow : Bool) (bs : Nat) (h new : Heap) (cs : List A) : retA ow bs h new (.agg cs) = (match retL ow bs h new cs with | some (cs', h1, new1) => some (.agg cs', h1, new1) | none => none) := rfl
@[simp] theorem snap_agg (h : Heap) (cs : List A) : snap h (.agg cs) = (match snapL h cs with | some (cs', k) => some (.agg cs', k) | none => none) := rfl
@[simp] theorem pureA_agg (cs : List A) : pureA (.agg cs) = cs.all pure1 := rfl
@[simp] theorem flatA_agg (cs : List A) : flatA (.agg cs) = cs.all flat1 := rfl
@[simp] theorem flatR_agg (cs : List A) : flatR (.agg cs) = flatA (.agg cs) := rfl
@[simp] theorem pure1_agg (cs : List A) : pure1 (.agg cs) = false := rfl
@[simp] theorem flat1_agg (cs : List A) : flat1 (.agg cs) = false := rfl
@[simp] theorem snap1_agg (h : Heap) (cs : List A) : snap1 h (.agg cs) = some ((.agg cs), []) := rfl
@[simp] theorem stor1_agg (cs : List A) : stor1 (.agg cs) = false := rfl
@[simp] theorem cells_tup (vs : List A) : A.cells (.tup vs) = [(.tup vs)] := rfl
@[simp] theorem undefB_tup (vs : List A) : isUndef (.tup vs) = false := rfl
@[simp] theorem shift_tup (q : Nat) (vs : List A) : shift q (.tup vs) = .tup (vs.map (shiftA q)) := rfl
@[simp] theorem shiftA_tup (q : Nat) (vs : List A) : shiftA q (.tup vs) = (.tup vs) := rfl
@[simp] theorem shift1_tup (q : Nat) (vs : List A) : shift1 q (.tup vs) = (.tup vs) := rfl
@[simp] theorem retA_tup (ow : Bool) (bs : Nat) (h new : Heap) (vs : List A) : retA ow bs h new (.tup vs) = ret1 ow bs h new (.tup vs) := rfl
@[simp] theorem snap_tup (h : Heap) (vs : List A) : snap h (.tup vs) = snap1 h (.tup vs) := rfl
@[simp] theorem pureA_tup (vs : List A) : pureA (.tup vs) = pure1 (.tup vs) := rfl
@[simp] theorem flatA_tup (vs : List A) : flatA (.tup vs) = flat1 (.tup vs) := rfl
@[simp] theorem flatR_tup (vs : List A) : flatR (.tup vs) = vs.all flatA := rfl
@[simp] theorem pure1_tup (vs : List A) : pure1 (.tup vs) = false := rfl
@[simp] theorem flat1_tup (vs : List A) : flat1 (.tup vs) = false := rfl
@[simp] theorem snap1_tup (h : Heap) (vs : List A) : snap1 h (.tup vs) = some ((.tup vs), []) := rfl
@[simp] theorem stor1_tup (vs : List A) : stor1 (.tup vs) = false := rfl
@[simp] theorem cells_ptr (b j : Nat) : A.cells (.ptr b j) = [(.ptr b j)] := rfl
@[simp] theorem undefB_ptr (b j : Nat) : isUndef (.ptr b j) = false := rfl
@[simp] theorem shift_ptr (q : Nat) (b j : Nat) : shift q (.ptr b j) = (.ptr b j) := rfl
@[simp] theorem shiftA_ptr (q : Nat) (b j : Nat) : shiftA q (.ptr b j) = (.ptr b j) := rfl
@[simp] theorem shift1_ptr (q : Nat) (b j : Nat) : shift1 q (.ptr b j) = (.ptr b j) := rfl
@[simp] theorem retA_ptr (ow : Bool) (bs : Nat) (h new : Heap) (b j : Nat) : retA ow bs h new (.ptr b j) = ret1 ow bs h new (.ptr b j) := rfl
@[simp] theorem snap_ptr (h : Heap) (b j : Nat) : snap h (.ptr b j) = snap1 h (.ptr b j) := rfl
@[simp] theorem pureA_ptr (b j : Nat) : pureA (.ptr b j) = pure1 (.ptr b j) := rfl
@[simp] theorem flatA_ptr (b j : Nat) : flatA (.ptr b j) = flat1 (.ptr b j) := rfl
@[simp] theorem flatR_ptr (b j : Nat) : flatR (.ptr b j) = flatA (.ptr b j) := rfl
@[simp] theorem pure1_ptr (b j : Nat) : pure1 (.ptr b j) = false := rfl
@[simp] theorem flat1_ptr (b j : Nat) : flat1 (.ptr b j) = false := rfl
@[simp] theorem snap1_ptr (h : Heap) (b j : Nat) : snap1 h (.ptr b j) = some ((.ptr b j), []) := rfl
@[simp] theorem stor1_ptr (b j : Nat) : stor1 (.ptr b j) = true := rfl
@[simp] theorem cells_vptr (b ver i j : Nat) : A.cells (.vptr b ver i j) = [(.vptr b ver i j)] := rfl
@[simp] theorem undefB_vptr (b ver i j : Nat) : isUndef (.vptr b ver i j) = false := rfl
@[simp] theorem shift_vptr (q : Nat) (b ver i j : Nat) : shift q (.vptr b ver i j) = (.vptr b ver i j) := rfl
@[simp] theorem shiftA_vptr (q : Nat) (b ver i j : Nat) : shiftA q (.vptr b ver i j) = (.vptr b ver i j) := rfl
@[simp] theorem shift1_vptr (q : Nat) (b ver i j : Nat) : shift1 q (.vptr b ver i j) = (.vptr b ver i j) := rfl
@[simp] theorem retA_vptr (ow : Bool) (bs : Nat) (h new : Heap) (b ver i j : Nat) : retA ow bs h new (.vptr b ver i j) = ret1 ow bs h new (.vptr b ver i j) := rfl
@[simp] theorem snap_vptr (h : Heap) (b ver i j : Nat) : snap h (.vptr b ver i j) = snap1 h (.vptr b ver i j) := rfl
@[simp] theorem pureA_vptr (b ver i j : Nat) : pureA (.vptr b ver i j) = pure1 (.vptr b ver i j) := rfl
@[simp] theorem flatA_vptr (b ver i j : Nat) : flatA (.vptr b ver i j) = flat1 (.vptr b ver i j) := rfl
@[simp] theorem flatR_vptr (b ver i j : Nat) : flatR (.vptr b ver i j) = flatA (.vptr b ver i j) := rfl
@[simp] theorem pure1_vptr (b ver i j : Nat) : pure1 (.vptr b ver i j) = false := rfl
@[simp] theorem flat1_vptr (b ver i j : Nat) : flat1 (.vptr b ver i j) = false := rfl
@[simp] theorem snap1_vptr (h : Heap) (b ver i j : Nat) : snap1 h (.vptr b ver i j) = some ((.vptr b ver i j), []) := rfl
@[simp] theorem stor1_vptr (b ver i j : Nat) : stor1 (.vptr b ver i j) = true := rfl
@[simp] theorem cells_eptr (row : List A) (j : Nat) : A.cells (.eptr row j) = [(.eptr row j)] := rfl
@[simp] theorem undefB_eptr (row : List A) (j : Nat) : isUndef (.eptr row j) = false := rfl
@[simp] theorem shift_eptr (q : Nat) (row : List A) (j : Nat) : shift q (.eptr row j) = (.eptr row j) := rfl
@[simp] theorem shiftA_eptr (q : Nat) (row : List A) (j : Nat) : shiftA q (.eptr row j) = (.eptr row j) := rfl
@[simp] theorem shift1_eptr (q : Nat) (row : List A) (j : Nat) : shift1 q (.eptr row j) = (.eptr row j) := rfl
@[simp] theorem retA_eptr (ow : Bool) (bs : Nat) (h new : Heap) (row : List A) (j : Nat) : retA ow bs h new (.eptr row j) = ret1 ow bs h new (.eptr row j) := rfl
@[simp] theorem snap_eptr (h : Heap) (row : List A) (j : Nat) : snap h (.eptr row j) = snap1 h (.eptr row j) := rfl
@[simp] theorem pureA_eptr (row : List A) (j : Nat) : pureA (.eptr row j) = pure1 (.eptr row j) := rfl
@[simp] theorem flatA_eptr (row : List A) (j : Nat) : flatA (.eptr row j) = flat1 (.eptr row j) := rfl
@[simp] theorem flatR_eptr (row : List A) (j : Nat) : flatR (.eptr row j) = flatA (.eptr row j) := rfl
@[simp] theorem pure1_eptr (row : List A) (j : Nat) : pure1 (.eptr row j) = false := rfl
@[simp] theorem flat1_eptr (row : List A) (j : Nat) : flat1 (.eptr row j) = false := rfl
@[simp] theorem snap1_eptr (h : Heap) (row : List A) (j : Nat) : snap1 h (.eptr row j) = some ((.eptr row j), []) := rfl
@[simp] theorem stor1_eptr (row : List A) (j : Nat) : stor1 (.eptr row j) = true := rfl
@[simp] theorem cells_fn (f : FuncId) (caps : List A) : A.cells (.fn f caps) = [(.fn f caps)] := rfl
@[simp] theorem undefB_fn (f : FuncId) (caps : List A) : isUndef (.fn f caps) = false := rfl
@[simp] theorem shift_fn (q : Nat) (f : FuncId) (caps : List A) : shift q (.fn f caps) = (.fn f caps) := rfl
@[simp] theorem shiftA_fn (q : Nat) (f : FuncId) (caps : List A) : shiftA q (.fn f caps) = (.fn f caps) := rfl
@[simp] theorem shift1_fn (q : Nat) (f : FuncId) (caps : List A) : shift1 q (.fn f caps) = (.fn f caps) := rfl
@[simp] theorem retA_fn (ow : Bool) (bs : Nat) (h new : Heap) (f : FuncId) (caps : List A) : retA ow bs h new (.fn f caps) = ret1 ow bs h new (.fn f caps) := rfl
@[simp] theorem snap_fn (h : Heap) (f : FuncId) (caps : List A) : snap h (.fn f caps) = snap1 h (.fn f caps) := rfl
@[simp] theorem pureA_fn (f : FuncId) (caps : List A) : pureA (.fn f caps) = pure1 (.fn f caps) := rfl
@[simp] theorem flatA_fn (f : FuncId) (caps : List A) : flatA (.fn f caps) = flat1 (.fn f caps) := rfl
@[simp] theorem flatR_fn (f : FuncId) (caps : List A) : flatR (.fn f caps) = flatA (.fn f caps) := rfl
@[simp] theorem snap1_fn (h : Heap) (f : FuncId) (caps : List A) : snap1 h (.fn f caps) = some ((.fn f caps), []) := rfl
@[simp] theorem stor1_fn (f : FuncId) (caps : List A) : stor1 (.fn f caps) = true := rfl
@[simp] theorem cells_nilp  : A.cells .nilp = [.nilp] := rfl
@[simp] theorem undefB_nilp  : isUndef .nilp = false := rfl
@[simp] theorem shift_nilp (q : Nat)  : shift q .nilp = .nilp := rfl
@[simp] theorem shiftA_nilp (q : Nat)  : shiftA q .nilp = .nilp := rfl
@[simp] theorem shift1_nilp (q : Nat)  : shift1 q .nilp = .nilp := rfl
@[simp] theorem retA_nilp (ow : Bool) (bs : Nat) (h new : Heap)  : retA ow bs h new .nilp = ret1 ow bs h new .nilp := rfl
@[simp] theorem snap_nilp (h : Heap)  : snap h .nilp = snap1 h .nilp := rfl
@[simp] theorem pureA_nilp  : pureA .nilp = pure1 .nilp := rfl
@[simp] theorem flatA_nilp  : flatA .nilp = flat1 .nilp := rfl
@[simp] theorem flatR_nilp  : flatR .nilp = flatA .nilp := rfl
@[simp] theorem pure1_nilp  : pure1 .nilp = true := rfl
@[simp] theorem flat1_nilp  : flat1 .nilp = true := rfl
@[simp] theorem snap1_nilp (h : Heap)  : snap1 h .nilp = some (.nilp, []) := rfl
@[simp] theorem stor1_nilp  : stor1 .nilp = true := rfl
@[simp] theorem ret1_nilp (ow : Bool) (bs : Nat) (h new : Heap)  : ret1 ow bs h new .nilp = some (.nilp, h, new) := rfl
@[simp] theorem frz1_nilp (h : Heap)  : frz1 h .nilp = some (.nilp, h) := rfl
@[simp] theorem cells_nilif  : A.cells .nilif = [.nilif] := rfl
@[simp] theorem undefB_nilif  : isUndef .nilif = false := rfl
@[simp] theorem shift_nilif (q : Nat)  : shift q .nilif = .nilif := rfl
@[simp] theorem shiftA_nilif (q : Nat)  : shiftA q .nilif = .nilif := rfl
@[simp] theorem shift1_nilif (q : Nat)  : shift1 q .nilif = .nilif := rfl
@[simp] theorem retA_nilif (ow : Bool) (bs : Nat) (h new : Heap)  : retA ow bs h new .nilif = ret1 ow bs h new .nilif := rfl
@[simp] theorem snap_nilif (h : Heap)  : snap h .nilif = snap1 h .nilif := rfl
@[simp] theorem pureA_nilif  : pureA .nilif = pure1 .nilif := rfl
@[simp] theorem flatA_nilif  : flatA .nilif = flat1 .nilif := rfl
@[simp] theorem flatR_nilif  : flatR .nilif = flatA .nilif := rfl
@[simp] theorem pure1_nilif  : pure1 .nilif = true := rfl
@[simp] theorem flat1_nilif  : flat1 .nilif = true := rfl
@[simp] theorem snap1_nilif (h : Heap)  : snap1 h .nilif = some (.nilif, []) := rfl
@[simp] theorem stor1_nilif  : stor1 .nilif = true := rfl
@[simp] theorem ret1_nilif (ow : Bool) (bs : Nat) (h new : Heap)  : ret1 ow bs h new .nilif = some (.nilif, h, new) := rfl
@[simp] theorem frz1_nilif (h : Heap)  : frz1 h .nilif = some (.nilif, h) := rfl
@[simp] theorem cells_errv  : A.cells .errv = [.errv] := rfl
@[simp] theorem undefB_errv  : isUndef .errv = false := rfl
@[simp] theorem shift_errv (q : Nat)  : shift q .errv = .errv := rfl
@[simp] theorem shiftA_errv (q : Nat)  : shiftA q .errv = .errv := rfl
@[simp] theorem shift1_errv (q : Nat)  : shift1 q .errv = .errv := rfl
@[simp] theorem retA_errv (ow : Bool) (bs : Nat) (h new : Heap)  : retA ow bs h new .errv = ret1 ow bs h new .errv := rfl
@[simp] theorem snap_errv (h : Heap)  : snap h .errv = snap1 h .errv := rfl
@[simp] theorem pureA_errv  : pureA .errv = pure1 .errv := rfl
@[simp] theorem flatA_errv  : flatA .errv = flat1 .errv := rfl
@[simp] theorem flatR_errv  : flatR .errv = flatA .errv := rfl
@[simp] theorem pure1_errv  : pure1 .errv = true := rfl
@[simp] theorem flat1_errv  : flat1 .errv = true := rfl
@[simp] theorem snap1_errv (h : Heap)  : snap1 h .errv = some (.errv, []) := rfl
@[simp] theorem stor1_errv  : stor1 .errv = true := rfl
@[simp] theorem ret1_errv (ow : Bool) (bs : Nat) (h new : Heap)  : ret1 ow bs h new .errv = some (.errv, h, new) := rfl
@[simp] theorem frz1_errv (h : Heap)  : frz1 h .errv = some (.errv, h) := rfl
@[simp] theorem pure1_fn0 (f : FuncId) : pure1 (.fn f []) = true := rfl
@[simp] theorem pure1_fn1 (f : FuncId) (c : A) (cs : List A) : pure1 (.fn f (c :: cs)) = false := rfl
@[simp] theorem flat1_fn0 (f : FuncId) : flat1 (.fn f []) = true := rfl
@[simp] theorem flat1_fn1 (f : FuncId) (c : A) (cs : List A) : flat1 (.fn f (c :: cs)) = false := rfl
@[simp] theorem ret1_fn0 (ow : Bool) (bs : Nat) (h new : Heap) (f : FuncId) : ret1 ow bs h new (.fn f []) = some (.fn f [], h, new) := rfl
theorem ret1_own (ow : Bool) (bs : Nat) (h new : Heap) (b ver off n : Nat) : ret1 ow bs h new (.own b ver off n) = (if b < bs then some (.own b ver off n, h, new)
    else match h[b]? with
      | some (.vec ver' sz rows) =>
        if ver = ver' then
          (if ow = true then some (.own (bs + new.length) 0 off n, h.set b .dead, new ++ [.vec 0 sz (rows.take (off + n))])
          else some (.sl ((rows.drop off).take n), h, new))
        else none
      | _ => none) := rfl
def retO (ow : Bool) (bs : Nat) (h new : Heap) (x : Option Blk) (b ver off n : Nat) : Option (A × Heap × Heap) := match x with
      | some (.vec ver' sz rows) =>
        if ver = ver' then
          (if ow = true then some (.own (bs + new.length) 0 off n, h.set b .dead, new ++ [.vec 0 sz (rows.take (off + n))])
          else some (.sl ((rows.drop off).take n), h, new))
        else none
      | _ => none
@[simp] theorem retO_vec (ow : Bool) (bs : Nat) (h new : Heap) (sz : Nat) (rows : List (List A)) (b ver off n : Nat) : retO ow bs h new (some (.vec ver sz rows)) b ver off n = (if ow = true then some (.own (bs + new.length) 0 off n, h.set b .dead, new ++ [.vec 0 sz (rows.take (off + n))])
          else some (.sl ((rows.drop off).take n), h, new)) := if_pos rfl
@[simp] theorem ret1_lo (ow : Bool) (bs : Nat) (h new : Heap) (b ver off n : Nat) (hb : b < bs) : ret1 ow bs h new (.own b ver off n) = some (.own b ver off n, h, new) := by
  rw [ret1_own, if_pos hb]
@[simp] theorem ret1_hi (ow : Bool) (bs : Nat) (h new : Heap) (b ver off n : Nat) (hb : bs ≤ b) : ret1 ow bs h new (.own b ver off n) = retO ow bs h new h[b]? b ver off n := by
  rw [ret1_own, if_neg (by omega)]; rfl
@[simp] theorem ret1_ptr (ow : Bool) (bs : Nat) (h new : Heap) (b j : Nat) : ret1 ow bs h new (.ptr b j) = if b < bs then some (.ptr b j, h, new) else none := rfl
@[simp] theorem snap1_own (h : Heap) (b ver off n : Nat) : snap1 h (.own b ver off n) = match h[b]? with
    | some (.vec ver' _ rows) => if ver = ver' then some (.sl ((rows.drop off).take n), [b]) else none
    | _ => none := rfl
@[simp] theorem frz1_own (h : Heap) (b ver off n : Nat) : frz1 h (.own b ver off n) = match h[b]? with
    | some (.vec ver' _ rows) => if ver = ver' then some (.sl ((rows.drop off).take n), h.set b .dead) else none
    | _ => none := rfl
@[simp] theorem lenA_sl (rows : List (List A)) : lenA (.sl rows) = some rows.length := rfl
@[simp] theorem lenA_own (b ver off n : Nat) : lenA (.own b ver off n) = some n := rfl
@[simp] theorem lenA_str (s : List UInt8) : lenA (.str s) = some s.length := rfl
@[simp] theorem lenTy_sl (s b : Nat) (g : Bool) (e : Option TypeId) (k : Option IntKind) (i : Bool) (f : List (Nat × TypeId)) (z : Option (List Value)) (rows : List (List A)) : lenTy ⟨s, b, g, e, k, i, f, z⟩ (.sl rows) = e.isSome := rfl
@[simp] theorem lenTy_own (s b : Nat) (g : Bool) (e : Option TypeId) (k : Option IntKind) (i : Bool) (f : List (Nat × TypeId)) (z : Option (List Value)) (q v o n : Nat) : lenTy ⟨s, b, g, e, k, i, f, z⟩ (.own q v o n) = e.isSome := rfl
@[simp] theorem lenTy_str (s b : Nat) (g : Bool) (e : Option TypeId) (k : Option IntKind) (i : Bool) (f : List (Nat × TypeId)) (z : Option (List Value)) (q : List UInt8) : lenTy ⟨s, b, g, e, k, i, f, z⟩ (.str q) = i := rfl
@[simp] theorem unA_not (b : Bool) : unA .not (.bool b) = some (.bool (!b)) := rfl
@[simp] theorem unA_neg (k : IntKind) (n : Int) : unA .neg (.int k n) = some (.int k (k.wrap (0 - n))) := rfl
@[simp] theorem loadAt_ptr (g : Bool) (s : Nat) (h : Heap) (b j : Nat) : loadAt g s h (.ptr b j) = match h[b]? with
    | some (.var cs) => loadA g s cs j
    | _ => none := rfl
@[simp] theorem loadAt_vptr (g : Bool) (s : Nat) (h : Heap) (b ver i j : Nat) : loadAt g s h (.vptr b ver i j) = match h[b]? with
    | some (.vec ver' _ rows) => if ver = ver' then (match rows[i]? with
      | some row => loadA g s row j
      | none => none) else none
    | _ => none := rfl
@[simp] theorem loadAt_eptr (g : Bool) (s : Nat) (h : Heap) (row : List A) (j : Nat) : loadAt g s h (.eptr row j) = loadA g s row j := rfl
@[simp] theorem loadA_true (s : Nat) (cs : List A) (j : Nat) : loadA true s cs j = if j + s ≤ cs.length then some (.agg ((cs.drop j).take s)) else none := rfl
@[simp] theorem loadA_false (s : Nat) (cs : List A) (j : Nat) : loadA false s cs j = cs[j]? := rfl
@[simp] theorem fieldAddr_ptr (b j o : Nat) : fieldAddrA (.ptr b j) o = some (.ptr b (j + o)) := rfl
@[simp] theorem fieldAddr_vptr (b v i j o : Nat) : fieldAddrA (.vptr b v i j) o = some (.vptr b v i (j + o)) := rfl
@[simp] theorem fieldAddr_eptr (r : List A) (j o : Nat) : fieldAddrA (.eptr r j) o = some (.eptr r (j + o)) := rfl
@[simp] theorem intA_int (k : IntKind) (n : Int) : intA (.int k n) = some n := rfl
@[simp] theorem bndA_none (env : Env) : bndA env none = some none := rfl
@[simp] theorem bndA_some (env : Env) (x : Operand) : bndA env (some x) = (intA (ev env x)).map some := rfl
theorem indexA_sl (size : Nat) (h : Heap) (rows : List (List A)) (i : Int) : indexA size h (.sl rows) i = if 0 ≤ i then (match rows[i.toNat]? with
    | some row => if row.length = size then some (.eptr row 0) else none
    | none => none) else none := rfl
def idxRow (size : Nat) (r : Option (List A)) : Option A := match r with
    | some row => if row.length = size then some (.eptr row 0) else none
    | none => none
@[simp] theorem idxRow_some (size : Nat) (row : List A) : idxRow size (some row) = if row.length = size then some (.eptr row 0) else none := rfl
@[simp] theorem indexA_slp (size : Nat) (h : Heap) (rows : List (List A)) (i : Int) (hi : 0 ≤ i) : indexA size h (.sl rows) i = idxRow size rows[i.toNat]? := by
  rw [indexA_sl, if_pos hi]; rfl
def idxO (size : Nat) (x : Option Blk) (b ver off n : Nat) (i : Int) : Option A := match x with
    | some (.vec ver' sz _) => if ver = ver' ∧ 0 ≤ i ∧ i < n ∧ sz = size then some (.vptr b ver (off + i.toNat) 0) else none
    | _ => none
@[simp] theorem indexA_own (size : Nat) (h : Heap) (b ver off n : Nat) (i : Int) : indexA size h (.own b ver off n) i = idxO size h[b]? b ver off n i := rfl
@[simp] theorem idxO_vec (size sz : Nat) (rows : List (List A)) (b ver off n : Nat) (i : Int) (h0 : 0 ≤ i) (h1 : i < n) (h2 : sz = size) : idxO size (some (.vec ver sz rows)) b ver off n i = some (.vptr b ver (off + i.toNat) 0) := by
  simp only [idxO]
  rw [if_pos ⟨trivial, h0, h1, h2⟩]
@[simp] theorem storeAt_ptr (base size : Nat) (h : Heap) (b j : Nat) (v : A) : storeAt base size h (.ptr b j) v = if v.cells.length = size then match escL base b v.cells h with
      | some (cs', h') => match h'[b]? with
        | some (.var cs) => if j + size ≤ cs.length ∧ cs'.all stor1 = true then some (h'.set b (.var (setCells cs j cs'))) else none
        | _ => none
      | none => none
    else none := rfl
@[simp] theorem storeAt_vptr (base size : Nat) (h : Heap) (b ver i j : Nat) (v : A) : storeAt base size h (.vptr b ver i j) v = if v.cells.length = size then match frzL v.cells h with
      | some (cs', h') => match h'[b]? with
        | some (.vec ver' sz rows) => if ver = ver' then (match rows[i]? with
          | some row => if j + size ≤ row.length then some (h'.set b (.vec ver sz (rows.set i (setCells row j cs')))) else none
          | none => none) else none
        | _ => none
      | none => none
    else none := rfl
@[simp] theorem maxA_int (k : IntKind) (x y : Int) : maxA (.int k x) (.int k y) = some (.int k (if y > x then y else x)) := rfl
@[simp] theorem minA_int (k : IntKind) (x y : Int) : minA (.int k x) (.int k y) = some (.int k (if y < x then y else x)) := rfl
@[simp] theorem wrapRes1 (a : A) : wrapRes [a] = a := rfl
@[simp] theorem wrapRes2 (a b : A) (r : List A) : wrapRes (a :: b :: r) = .tup (a :: b :: r) := rfl
@[simp] theorem wrapRes0 : wrapRes [] = .tup [] := rfl
@[simp] theorem virt1_sl (h : Heap) : virt1 (.slice none 0 0) h = (.own h.length 0 0 0, h ++ [.vec 0 0 []]) := rfl
@[simp] theorem virt1_int (k : IntKind) (n : Int) (h : Heap) : virt1 (.int k n) h = (.int k n, h) := rfl
@[simp] theorem virt1_bool (b : Bool) (h : Heap) : virt1 (.bool b) h = (.bool b, h) := rfl
@[simp] theorem virt1_str (s : ByteArray) (h : Heap) : virt1 (.string s) h = (.str s.data.toList, h) := rfl
@[simp] theorem absV_sl : absV (.slice none 0 0) = .sl [] := rfl
@[simp] theorem absV_int (k : IntKind) (n : Int) : absV (.int k n) = .int k n := rfl
@[simp] theorem absV_bool (b : Bool) : absV (.bool b) = .bool b := rfl
@[simp] theorem absV_str (s : ByteArray) : absV (.string s) = .str s.data.toList := rfl
@[simp] theorem rowsOf_sl (h : Heap) (rows : List (List A)) : rowsOf h (.sl rows) = some rows := rfl
@[simp] theorem rowsOf_own (h : Heap) (b ver off n : Nat) : rowsOf h (.own b ver off n) = match h[b]? with
    | some (.vec ver' _ rows) => if ver = ver' then some ((rows.drop off).take n) else none
    | _ => none := rfl
@[simp] theorem rowsOf_str (h : Heap) (s : List UInt8) : rowsOf h (.str s) = some (s.map fun c => [.int .u8 c.toNat]) := rfl
@[simp] theorem low1_own (q b ver off n : Nat) : low1 q (.own b ver off n) = decide (b < q) := rfl
@[simp] theorem low1_ptr (q b j : Nat) : low1 q (.ptr b j) = decide (b < q) := rfl
@[simp] theorem low1_vptr (q b v i j : Nat) : low1 q (.vptr b v i j) = decide (b < q) := rfl
@[simp] theorem low1_int (q : Nat) (k : IntKind) (n : Int) : low1 q (.int k n) = true := rfl
@[simp] theorem low1_bool (q : Nat) (b : Bool) : low1 q (.bool b) = true := rfl
@[simp] theorem low1_str (q : Nat) (s : List UInt8) : low1 q (.str s) = true := rfl
@[simp] theorem low1_sl (q : Nat) (s : List (List A)) : low1 q (.sl s) = true := rfl
@[simp] theorem flatB_dead : flatB .dead = true := rfl
@[simp] theorem flatB_var (cs : List A) : flatB (.var cs) = cs.all flat1 := rfl
def flatRows (rows : List (List A)) : Bool := rows.all fun r => r.all flat1
@[simp] theorem flatB_vec (v s : Nat) (rows : List (List A)) : flatB (.vec v s rows) = flatRows rows := rfl
@[simp] theorem flatRows_nil : flatRows [] = true := rfl
@[simp] theorem flatRows_cons (r : List A) (rows : List (List A)) : flatRows (r :: rows) = (r.all flat1 && flatRows rows) := rfl
@[simp] theorem flatRows_app (a b : List (List A)) : flatRows (a ++ b) = (flatRows a && flatRows b) := by simp [flatRows]
@[simp] theorem retF_def (f : FuncId) (base : Nat) (res : List ResultVar) (env : Env) (h : Heap) : retF P cfg f base res ⟨env, h⟩ = match resVals P env h res with
  | some vs => match retAs (cfg.own f) base h [] vs with
    | some (vs', h', new) => some (wrapRes vs', h'.take base ++ new)
    | none => none
  | none => none := rfl

/-- The way that a condition takes. -/
noncomputable def condA (P : Program) (cfg : Cfg) (base nt : Nat) (t : A) (a b : Code) (env : Env) (h : Heap) : Option (X × St) := match t with
  | .bool t => condC P cfg base nt t a b env h
  | _ => none
@[simp] theorem condA_bool (base nt : Nat) (t : Bool) (a b : Code) (env : Env) (h : Heap) : condA P cfg base nt (.bool t) a b env h = condC P cfg base nt t a b env h := rfl
theorem ω_condA (base nt : Nat) (c : Operand) (a b : Code) (env : Env) (h : Heap) (t : Bool) (hc : ev env c = .bool t) : execω P cfg base nt (.cond c a b) env h = condA P cfg base nt (ev env c) a b env h := by
  rw [ω_condC hc, hc]; rfl
theorem Out_condA {base nt : Nat} {c : Operand} {a b : Code} {env : Env} {h : Heap} {Q : X → Env → Heap → Prop} : Out (execω P cfg base nt (.cond c a b) env h) Q = Out (condA P cfg base nt (ev env c) a b env h) Q := by
  cases hc : ev env c with
  | bool t => rw [ω_condA base nt c a b env h t hc, hc]
  | _ =>
    have : execω P cfg base nt (.cond c a b) env h = none := by
      cases ho : execω P cfg base nt (.cond c a b) env h with
      | none => rfl
      | some o =>
        obtain ⟨k, hk⟩ := execω_iff.1 ho
        cases k with
        | zero => simp [exec] at hk
        | succ k => simp [exec, hc] at hk
    rw [this]; rfl
attribute [simp ↓] Out_condA

def loadK (ti : Option TI) (h : Heap) (a : A) : Option (A × Heap) := match ti with
  | some ti => withH (loadAt ti.agg ti.size h a) h
  | none => none
@[simp] theorem loadK_some (s b : Nat) (g : Bool) (e : Option TypeId) (k : Option IntKind) (i : Bool) (f : List (Nat × TypeId)) (z : Option (List Value)) (h : Heap) (a : A) : loadK (some ⟨s, b, g, e, k, i, f, z⟩) h a = withH (loadAt g s h a) h := rfl
@[simp] theorem stepLoad (base : Nat) (t : TypeId) (x : Operand) (env : Env) (h : Heap) : stepOp P cfg C base (.load t x) env h = loadK (tab P t) h (ev env x) := by
  simp only [stepOp, loadK]
  cases tab P t <;> rfl
def storeK (ti : Option TI) (base : Nat) (p : A) (vh : A × Heap) : Option (A × Heap) := match ti with
  | some ti => stored (storeAt base ti.size vh.2 p vh.1)
  | none => none
@[simp] theorem storeK_some (s b : Nat) (g : Bool) (e : Option TypeId) (k : Option IntKind) (i : Bool) (f : List (Nat × TypeId)) (z : Option (List Value)) (base : Nat) (p v : A) (h : Heap) : storeK (some ⟨s, b, g, e, k, i, f, z⟩) base p (v, h) = stored (storeAt base s h p v) := rfl
@[simp] theorem stepStore (base : Nat) (t : TypeId) (p x : Operand) (env : Env) (h : Heap) : stepOp P cfg C base (.store t p x) env h = storeK (tab P t) base (ev env p) (evN env x h) := by
  cases ht : tab P t with
  | none => simp only [stepOp, ht, storeK]
  | some ti => rw [step_store base t p x env h ht]; rfl
def lenK2 (n : Option Nat) (ok : Bool) (h : Heap) : Option (A × Heap) := match n with
  | some n => if ok = true then some (.int .i64 n, h) else none
  | none => none
@[simp] theorem lenK2_some (n : Nat) (h : Heap) : lenK2 (some n) true h = some (.int .i64 n, h) := rfl
def lenK (ti : Option TI) (a : A) (h : Heap) : Option (A × Heap) := match ti with
  | some ti => lenK2 (lenA a) (lenTy ti a) h
  | none => none
@[simp] theorem lenK_some (ti : TI) (a : A) (h : Heap) : lenK (some ti) a h = lenK2 (lenA a) (lenTy ti a) h := rfl
@[simp] theorem stepLen (base : Nat) (x : Operand) (ty : TypeId) (env : Env) (h : Heap) : stepOp P cfg C base (.call { callee := .builtin .len, args := #[x], argTypes := #[ty] }) env h = lenK (tab P ty) (ev env x) h := by
  simp only [stepOp, builtinA, lenK, lenK2, List.map]
  cases tab P ty with
  | none => simp
  | some ti => cases lenA (ev env x) <;> simp
def capK2 (n : Option Int) (ok : Bool) (h : Heap) : Option (A × Heap) := match n with
  | some n => if ok = true then some (.int .i64 n, h) else none
  | none => none
@[simp] theorem capK2_some (n : Int) (h : Heap) : capK2 (some n) true h = some (.int .i64 n, h) := rfl
def capK (ti : Option TI) (a : A) (h : Heap) : Option (A × Heap) := match ti with
  | some ti => capK2 (capA h a) ti.elem.isSome h
  | none => none
@[simp] theorem capK_some (ti : TI) (a : A) (h : Heap) : capK (some ti) a h = capK2 (capA h a) ti.elem.isSome h := rfl
@[simp] theorem stepCap (base : Nat) (x : Operand) (ty : TypeId) (env : Env) (h : Heap) : stepOp P cfg C base (.call { callee := .builtin .cap, args := #[x], argTypes := #[ty] }) env h = capK (tab P ty) (ev env x) h := by
  simp only [stepOp, builtinA, capK, capK2, List.map]
  cases tab P ty with
  | none => simp
  | some ti => cases capA h (ev env x) <;> simp
def clearK (te : Option TI) (a : A) (h : Heap) : Option (A × Heap) := match te with
  | some te => clearA te h a
  | none => none
@[simp] theorem clearK_some (te : TI) (a : A) (h : Heap) : clearK (some te) a h = clearA te h a := rfl
@[simp] theorem stepClear (base : Nat) (x : Operand) (ty : TypeId) (env : Env) (h : Heap) : stepOp P cfg C base (.call { callee := .builtin .clear, args := #[x], argTypes := #[ty] }) env h = clearK (elemTI P ty) (ev env x) h := by
  simp only [stepOp, builtinA, clearK, elemTI, List.map]
  cases tab P ty with
  | none => rfl
  | some ti =>
    simp only []
    cases ti.elem with
    | none => rfl
    | some e => simp only []; cases tab P e <;> rfl
@[simp] theorem stepMax (base : Nat) (xs : List Operand) (x : Operand) (tys : Array TypeId) (env : Env) (h : Heap) : stepOp P cfg C base (.call { callee := .builtin .max, args := (x :: xs).toArray, argTypes := tys }) env h = withH (foldA maxA (ev env x) (xs.map (ev env))) h := by
  simp only [stepOp, builtinA, List.map]
@[simp] theorem stepMin (base : Nat) (xs : List Operand) (x : Operand) (tys : Array TypeId) (env : Env) (h : Heap) : stepOp P cfg C base (.call { callee := .builtin .min, args := (x :: xs).toArray, argTypes := tys }) env h = withH (foldA minA (ev env x) (xs.map (ev env))) h := by
  simp only [stepOp, builtinA, List.map]
def pickK (c a b : A) (h : Heap) : Option (A × Heap) := match c with
  | .bool t => some (if t = true then a else b, h)
  | _ => none
@[simp] theorem pickK_bool (t : Bool) (a b : A) (h : Heap) : pickK (.bool t) a b h = some (if t = true then a else b, h) := rfl
@[simp] theorem stepPick (base : Nat) (c a b : Operand) (env : Env) (h : Heap) : stepOp P cfg C base (.pick c a b) env h = pickK (ev env c) (ev env a) (ev env b) h := by
  simp only [stepOp, pickK]
  cases ev env c <;> rfl
def boolT (P : Program) (t : TypeId) : Bool := match P.underlying t with
  | some .bool => true
  | _ => false
def ifcT (P : Program) (t : TypeId) : Bool := match P.underlying t with
  | some (.interface _) => true
  | _ => false
def binK (P : Program) (op : BinOp) (t : TypeId) (x y : Operand) (a b : A) (h : Heap) : Option (A × Heap) := match binA op a b with
  | some a => some (a, h)
  | none => withH (eqA P op t x y a b) h
@[simp] theorem stepBin (base : Nat) (op : BinOp) (t u : TypeId) (x y : Operand) (env : Env) (h : Heap) : stepOp P cfg C base (.binOp op t x y u) env h = binK P op t x y (ev env x) (ev env y) h := rfl
@[simp] theorem bin_add (t : TypeId) (x y : Operand) (k : IntKind) (a b : Int) (h : Heap) : binK P .add t x y (.int k a) (.int k b) h = some (.int k (k.wrap (a + b)), h) := by simp [binK, binA, binI, binS]
@[simp] theorem bin_sub (t : TypeId) (x y : Operand) (k : IntKind) (a b : Int) (h : Heap) : binK P .sub t x y (.int k a) (.int k b) h = some (.int k (k.wrap (a - b)), h) := by simp [binK, binA, binI, binS]
@[simp] theorem bin_mul (t : TypeId) (x y : Operand) (k : IntKind) (a b : Int) (h : Heap) : binK P .mul t x y (.int k a) (.int k b) h = some (.int k (k.wrap (a * b)), h) := by simp [binK, binA, binI, binS]
@[simp] theorem bin_quo (t : TypeId) (x y : Operand) (k : IntKind) (a b : Int) (h : Heap) : binK P .quo t x y (.int k a) (.int k b) h = if b = 0 then none else some (.int k (k.wrap (a.tdiv b)), h) := by
  simp only [binK, binA, if_true, binI]
  by_cases hb : b = 0 <;> simp [hb, eqA, withH]
@[simp] theorem bin_rem (t : TypeId) (x y : Operand) (k : IntKind) (a b : Int) (h : Heap) : binK P .rem t x y (.int k a) (.int k b) h = if b = 0 then none else some (.int k (a.tmod b), h) := by
  simp only [binK, binA, if_true, binI]
  by_cases hb : b = 0 <;> simp [hb, eqA, withH]
@[simp] theorem bin_and (t : TypeId) (x y : Operand) (k : IntKind) (a b : Int) (h : Heap) : binK P .and t x y (.int k a) (.int k b) h = some (.int k (k.wrap (BitVec.ofInt k.bits a &&& BitVec.ofInt k.bits b).toNat), h) := by simp [binK, binA, binI, binS]
@[simp] theorem bin_or (t : TypeId) (x y : Operand) (k : IntKind) (a b : Int) (h : Heap) : binK P .or t x y (.int k a) (.int k b) h = some (.int k (k.wrap (BitVec.ofInt k.bits a ||| BitVec.ofInt k.bits b).toNat), h) := by simp [binK, binA, binI, binS]
@[simp] theorem bin_xor (t : TypeId) (x y : Operand) (k : IntKind) (a b : Int) (h : Heap) : binK P .xor t x y (.int k a) (.int k b) h = some (.int k (k.wrap (BitVec.ofInt k.bits a ^^^ BitVec.ofInt k.bits b).toNat), h) := by simp [binK, binA, binI, binS]
@[simp] theorem bin_shl (t : TypeId) (x y : Operand) (k k' : IntKind) (a b : Int) (h : Heap) : binK P .shl t x y (.int k a) (.int k' b) h = if b < 0 then none else some (.int k (k.wrap (a * 2 ^ (min b.toNat k.bits))), h) := by
  simp only [binK, binA, binSh]
  by_cases hb : b < 0 <;> simp [hb, eqA, withH]
@[simp] theorem bin_shr (t : TypeId) (x y : Operand) (k k' : IntKind) (a b : Int) (h : Heap) : binK P .shr t x y (.int k a) (.int k' b) h = if b < 0 then none else some (.int k (a.fdiv (2 ^ (min b.toNat k.bits))), h) := by
  simp only [binK, binA, binSh]
  by_cases hb : b < 0 <;> simp [hb, eqA, withH]
@[simp] theorem bin_eql (t : TypeId) (x y : Operand) (k : IntKind) (a b : Int) (h : Heap) : binK P .eql t x y (.int k a) (.int k b) h = some (.bool (decide (a = b)), h) := by simp [binK, binA, binI, binS]
@[simp] theorem bin_neq (t : TypeId) (x y : Operand) (k : IntKind) (a b : Int) (h : Heap) : binK P .neq t x y (.int k a) (.int k b) h = some (.bool (!decide (a = b)), h) := by simp [binK, binA, binI, binS]
@[simp] theorem bin_lss (t : TypeId) (x y : Operand) (k : IntKind) (a b : Int) (h : Heap) : binK P .lss t x y (.int k a) (.int k b) h = some (.bool (decide (a < b)), h) := by simp [binK, binA, binI, binS]
@[simp] theorem bin_leq (t : TypeId) (x y : Operand) (k : IntKind) (a b : Int) (h : Heap) : binK P .leq t x y (.int k a) (.int k b) h = some (.bool (decide (a ≤ b)), h) := by simp [binK, binA, binI, binS]
@[simp] theorem bin_gtr (t : TypeId) (x y : Operand) (k : IntKind) (a b : Int) (h : Heap) : binK P .gtr t x y (.int k a) (.int k b) h = some (.bool (decide (b < a)), h) := by simp [binK, binA, binI, binS]
@[simp] theorem bin_geq (t : TypeId) (x y : Operand) (k : IntKind) (a b : Int) (h : Heap) : binK P .geq t x y (.int k a) (.int k b) h = some (.bool (decide (b ≤ a)), h) := by simp [binK, binA, binI, binS]
@[simp] theorem bin_cat (t : TypeId) (x y : Operand) (a b : List UInt8) (h : Heap) : binK P .add t x y (.str a) (.str b) h = if a.length + b.length ≤ 9223372036854775807 then some (.str (a ++ b), h) else none := by
  simp only [binK, binA, binS]
  by_cases hb : a.length + b.length ≤ 9223372036854775807 <;> simp [hb, eqA, withH]
@[simp] theorem bin_eqlS (t : TypeId) (x y : Operand) (a b : List UInt8) (h : Heap) : binK P .eql t x y (.str a) (.str b) h = some (.bool (decide (a = b)), h) := by simp [binK, binA, binI, binS]
@[simp] theorem bin_neqS (t : TypeId) (x y : Operand) (a b : List UInt8) (h : Heap) : binK P .neq t x y (.str a) (.str b) h = some (.bool (!decide (a = b)), h) := by simp [binK, binA, binI, binS]
@[simp] theorem bin_lssS (t : TypeId) (x y : Operand) (a b : List UInt8) (h : Heap) : binK P .lss t x y (.str a) (.str b) h = some (.bool (Op.bytesLess a b), h) := by simp [binK, binA, binI, binS]
def boolK (ok : Bool) (b : Bool) (h : Heap) : Option (A × Heap) := if ok = true then some (.bool b, h) else none
@[simp] theorem boolK_true (b : Bool) (h : Heap) : boolK true b h = some (.bool b, h) := rfl
theorem boolT_iff {t : TypeId} : boolT P t = true ↔ P.underlying t = some .bool := by
  unfold boolT
  split
  · rename_i h; simp [h]
  · rename_i h; simp; exact h
@[simp] theorem bin_eqlB (t : TypeId) (x y : Operand) (a b : Bool) (h : Heap) : binK P .eql t x y (.bool a) (.bool b) h = boolK (boolT P t) (a == b) h := by
  by_cases hb : boolT P t = true
  · have hu := boolT_iff.1 hb
    rw [hb]
    simp only [binK, binA, eqA, boolK, if_true]
    split <;> simp_all [withH]
  · have hu : ¬ P.underlying t = some .bool := fun hc => hb (boolT_iff.2 hc)
    simp only [Bool.not_eq_true] at hb
    rw [hb]
    simp only [binK, binA, eqA, boolK]
    split <;> simp_all [withH]
@[simp] theorem bin_neqB (t : TypeId) (x y : Operand) (a b : Bool) (h : Heap) : binK P .neq t x y (.bool a) (.bool b) h = boolK (boolT P t) (!(a == b)) h := by
  by_cases hb : boolT P t = true
  · have hu := boolT_iff.1 hb
    rw [hb]
    simp only [binK, binA, eqA, boolK, if_true]
    split <;> simp_all [withH]
  · have hu : ¬ P.underlying t = some .bool := fun hc => hb (boolT_iff.2 hc)
    simp only [Bool.not_eq_true] at hb
    rw [hb]
    simp only [binK, binA, eqA, boolK]
    split <;> simp_all [withH]
@[simp] theorem stepUn (base : Nat) (op : UnOp) (t : TypeId) (x : Operand) (env : Env) (h : Heap) : stepOp P cfg C base (.unOp op t x) env h = withH (unA op (ev env x)) h := rfl
def boxK (vh : A × Heap) : Option (A × Heap) := if isUndef vh.1 = true then none else some (.ptr vh.2.length 0, vh.2 ++ [.var vh.1.cells])
@[simp] theorem boxK_mk (v : A) (h : Heap) : boxK (v, h) = if isUndef v = true then none else some (.ptr h.length 0, h ++ [.var v.cells]) := rfl
@[simp] theorem stepBox (base : Nat) (t : TypeId) (x : Operand) (env : Env) (h : Heap) : stepOp P cfg C base (.box t x) env h = boxK (evN env x h) := rfl
def allocK2 (z : Option (List Value)) (h : Heap) : Option (A × Heap) := match z with
  | some z => some (.ptr (virtL z h).2.length 0, (virtL z h).2 ++ [.var (virtL z h).1])
  | none => none
@[simp] theorem allocK2_some (z : List Value) (h : Heap) : allocK2 (some z) h = some (.ptr (virtL z h).2.length 0, (virtL z h).2 ++ [.var (virtL z h).1]) := rfl
def allocK (ti : Option TI) (h : Heap) : Option (A × Heap) := match ti with
  | some ti => allocK2 ti.zero h
  | none => none
@[simp] theorem allocK_some (ti : TI) (h : Heap) : allocK (some ti) h = allocK2 ti.zero h := rfl
@[simp] theorem stepAlloc (base : Nat) (e : TypeId) (env : Env) (h : Heap) : stepOp P cfg C base (.alloc e) env h = allocK (tab P e) h := by
  simp only [stepOp, allocK, allocK2]
  cases tab P e with
  | none => rfl
  | some ti => simp only []; cases ti.zero <;> rfl
def nilK (a : A) (h : Heap) : Option (A × Heap) := if nilOk a = true then some (a, h) else none
@[simp] theorem nilK_ptr (b j : Nat) (h : Heap) : nilK (.ptr b j) h = some (.ptr b j, h) := rfl
@[simp] theorem nilK_vptr (b v i j : Nat) (h : Heap) : nilK (.vptr b v i j) h = some (.vptr b v i j, h) := rfl
@[simp] theorem nilK_eptr (r : List A) (j : Nat) (h : Heap) : nilK (.eptr r j) h = some (.eptr r j, h) := rfl
@[simp] theorem stepNil (base : Nat) (x : Operand) (env : Env) (h : Heap) : stepOp P cfg C base (.nilCheck x) env h = nilK (ev env x) h := rfl
def convK (P : Program) (ts td : Option TI) (a : A) (h : Heap) : Option (A × Heap) := match ts, td with
  | some ts, some td => convA P ts td a h
  | _, _ => none
@[simp] theorem convK_int (ts : TI) (s b : Nat) (g : Bool) (e : Option TypeId) (k : IntKind) (i : Bool) (f : List (Nat × TypeId)) (z : Option (List Value)) (k' : IntKind) (n : Int) (h : Heap) : convK P (some ts) (some ⟨s, b, g, e, some k, i, f, z⟩) (.int k' n) h = some (.int k (k.wrap n), h) := rfl
@[simp] theorem stepConv (base : Nat) (s d : TypeId) (x : Operand) (env : Env) (h : Heap) : stepOp P cfg C base (.convert s d x) env h = convK P (tab P s) (tab P d) (ev env x) h := by
  simp only [stepOp, convK]
  cases tab P s <;> cases tab P d <;> rfl
def sliceK (s : Bool) (size : Option Nat) (h : Heap) (x : A) (lo hi mx : Option (Option Int)) : Option (A × Heap) := match lo, hi, mx with
  | some lo, some hi, some mx => withH (sliceA s size h x lo hi mx) h
  | _, _, _ => none
@[simp] theorem sliceK_some (s : Bool) (size : Option Nat) (h : Heap) (x : A) (lo hi mx : Option Int) : sliceK s size h x (some lo) (some hi) (some mx) = withH (sliceA s size h x lo hi mx) h := rfl
@[simp] theorem stepSlice (base : Nat) (t : TypeId) (x : Operand) (lo hi mx : Option Operand) (env : Env) (h : Heap) : stepOp P cfg C base (.slice t x lo hi mx) env h = sliceK ((tab P t).any TI.isStr) (elemSz P t) h (ev env x) (bndA env lo) (bndA env hi) (bndA env mx) := by
  simp only [stepOp, sliceK]
  cases bndA env lo <;> cases bndA env hi <;> cases bndA env mx <;> rfl
/-- Where a field lies: its place and its type. -/
def fldTI (P : Program) (t : TypeId) (i : Nat) : Option (Nat × TI) := match fldOff P t i with
  | some (o, ft) => (tab P ft).map fun ti => (o, ti)
  | none => none
def fldAddrK (f : Option (Nat × TI)) (a : A) (h : Heap) : Option (A × Heap) := match f with
  | some (o, ti) => if Nat.blt 0 ti.size = true then withH (fieldAddrA a o) h else none
  | none => none
@[simp] theorem fldAddrK_some (o : Nat) (s b : Nat) (g : Bool) (e : Option TypeId) (k : Option IntKind) (i : Bool) (f : List (Nat × TypeId)) (z : Option (List Value)) (a : A) (h : Heap) : fldAddrK (some (o, ⟨s, b, g, e, k, i, f, z⟩)) a h = if Nat.blt 0 s = true then withH (fieldAddrA a o) h else none := rfl
@[simp] theorem stepFieldAddr (base : Nat) (t : TypeId) (x : Operand) (i : Nat) (env : Env) (h : Heap) : stepOp P cfg C base (.fieldAddr t x i) env h = fldAddrK (fldTI P t i) (ev env x) h := by
  simp only [stepOp, fldAddrK, fldTI]
  cases fldOff P t i with
  | none => rfl
  | some q =>
    obtain ⟨o, ft⟩ := q
    simp only []
    cases tab P ft <;> simp
def fldK (f : Option (Nat × TI)) (a : A) (h : Heap) : Option (A × Heap) := match f, a with
  | some (o, ti), .agg cs => withH (loadA ti.agg ti.size cs o) h
  | _, _ => none
@[simp] theorem fldK_agg (o : Nat) (s b : Nat) (g : Bool) (e : Option TypeId) (k : Option IntKind) (i : Bool) (f : List (Nat × TypeId)) (z : Option (List Value)) (cs : List A) (h : Heap) : fldK (some (o, ⟨s, b, g, e, k, i, f, z⟩)) (.agg cs) h = withH (loadA g s cs o) h := rfl
@[simp] theorem stepField (base : Nat) (t : TypeId) (x : Operand) (i : Nat) (env : Env) (h : Heap) : stepOp P cfg C base (.field t x i) env h = fldK (fldTI P t i) (ev env x) h := by
  simp only [stepOp, fldK, fldTI]
  cases fldOff P t i with
  | none => rfl
  | some q =>
    obtain ⟨o, ft⟩ := q
    simp only []
    cases tab P ft with
    | none => rfl
    | some ti => cases ev env x <;> rfl
@[simp] theorem fldTI_def (t : TypeId) (i : Nat) : fldTI P t i = (match (tab P t).bind (fun ti => ti.fields[i]?) with
  | some (o, ft) => (tab P ft).map fun ti => (o, ti)
  | none => none) := rfl
def extK (a : A) (i : Nat) (h : Heap) : Option (A × Heap) := match a with
  | .tup vs => withH vs[i]? h
  | _ => none
@[simp] theorem extK_tup (vs : List A) (i : Nat) (h : Heap) : extK (.tup vs) i h = withH vs[i]? h := rfl
@[simp] theorem stepExt (base : Nat) (x : Operand) (i : Nat) (env : Env) (h : Heap) : stepOp P cfg C base (.extract x i) env h = extK (ev env x) i h := by
  simp only [stepOp, extK]
  cases ev env x <;> rfl
/-- A byte of a text. -/
def idxS (str : Bool) (x i : A) (h : Heap) : Option (A × Heap) := match x, i with
  | .str s, .int _ i => if 0 ≤ i ∧ str = true then (match s[i.toNat]? with
      | some c => some (.int .u8 c.toNat, h)
      | none => none) else none
  | _, _ => none
@[simp] theorem stepIndex (base : Nat) (t : TypeId) (x i : Operand) (env : Env) (h : Heap) : stepOp P cfg C base (.index t x i) env h = idxS ((tab P t).any TI.isStr) (ev env x) (ev env i) h := by
  simp only [stepOp, idxS]
  cases ev env x <;> cases ev env i <;> rfl
@[simp] theorem idxS_str (s : List UInt8) (k : IntKind) (i : Nat) (h : Heap) : idxS true (.str s) (.int k i) h = match s[i]? with
      | some c => some (.int .u8 c.toNat, h)
      | none => none := by simp [idxS]
/-- A struct that is built. -/
def bldK2 (all emp : Bool) (P : Program) (flds : List (Nat × TypeId)) (cells : List A) (ps : List (Nat × A) × Heap) : Option (A × Heap) := if all = true ∧ emp = false then (match buildA P flds cells ps.1 with
        | some cs => some (.agg cs, ps.2)
        | none => none) else none
@[simp] theorem bldK2_ok (P : Program) (flds : List (Nat × TypeId)) (cells : List A) (ps : List (Nat × A)) (h : Heap) : bldK2 true false P flds cells (ps, h) = match buildA P flds cells ps with
        | some cs => some (.agg cs, h)
        | none => none := rfl
def bldK (P : Program) (ti : Option TI) (env : Env) (parts : List (Nat × Operand)) (h : Heap) : Option (A × Heap) := match ti with
  | some ti => match ti.zero with
    | some z => bldK2 (ti.fields.all fun f => (tab P f.2).isSome) ti.fields.isEmpty P ti.fields (virtL z h).1 (evParts env parts (virtL z h).2)
    | none => none
  | none => none
@[simp] theorem bldK_some (s b : Nat) (g : Bool) (e : Option TypeId) (k : Option IntKind) (i : Bool) (f : List (Nat × TypeId)) (z : List Value) (env : Env) (parts : List (Nat × Operand)) (h : Heap) :
    bldK P (some ⟨s, b, g, e, k, i, f, some z⟩) env parts h = bldK2 (f.all fun f => (tab P f.2).isSome) f.isEmpty P f (virtL z h).1 (evParts env parts (virtL z h).2) := rfl
@[simp] theorem stepBuild (base : Nat) (t : TypeId) (parts : List (Nat × Operand)) (env : Env) (h : Heap) : stepOp P cfg C base (.build t parts.toArray) env h = bldK P (tab P t) env parts h := by
  simp only [stepOp, bldK, bldK2]
  cases tab P t with
  | none => rfl
  | some ti => simp only []; cases ti.zero <;> rfl

/-- Calls. -/
def callK3 (h : Heap) (ks : List Nat) (r : Option (A × Heap)) : Option (A × Heap) := match r with
  | some (r, hr) => some (shift h.length r, (if (flatR r && hr.all flatB) = true then h else killAll h ks) ++ hr)
  | none => none
@[simp] theorem callK3_some (h : Heap) (ks : List Nat) (r : A) (hr : Heap) : callK3 h ks (some (r, hr)) = some (shift h.length r, (if (flatR r && hr.all flatB) = true then h else killAll h ks) ++ hr) := rfl
def callK2 (C : CallFn) (f : FuncId) (args : List A) (ks : List Nat) (h : Heap) (p : Bool) : Option (A × Heap) := if p = true then callK3 h ks (C f args []) else C f args (killAll h ks)
@[simp] theorem callK2_true (f : FuncId) (args : List A) (ks : List Nat) (h : Heap) : callK2 C f args ks h true = callK3 h ks (C f args []) := rfl
@[simp] theorem callK2_false (f : FuncId) (args : List A) (ks : List Nat) (h : Heap) : callK2 C f args ks h false = C f args (killAll h ks) := rfl
def callK1 (C : CallFn) (f : FuncId) (s : Option (List A × List Nat)) (h : Heap) : Option (A × Heap) := match s with
  | some (args, ks) => callK2 C f args ks h (args.all pureA)
  | none => none
@[simp] theorem callK1_some (f : FuncId) (args : List A) (ks : List Nat) (h : Heap) : callK1 C f (some (args, ks)) h = callK2 C f args ks h (args.all pureA) := rfl
@[simp] theorem callA_eq (f : FuncId) (args : List A) (h : Heap) : callA C f args h = callK1 C f (snaps h args) h := by
  simp only [callA, callK1, callK2, callK3]
  cases snaps h args with
  | none => rfl
  | some q =>
    obtain ⟨as, ks⟩ := q
    simp only []
    split
    · cases C f as [] <;> rfl
    · rfl

/-- Guarded operations. -/
def guardD2 (ops : List Oper) (j : Nat) : Option Tmp := (ops[j]?).bind (·.dst)
noncomputable def guardE (P : Program) (cfg : Cfg) (C : CallFn) (base nt : Nat) (all : Array Oper) (d : Option Tmp) (want : Bool) (dst : Option Tmp) (op : Op) (rest : List Oper) (env : Env) (h : Heap) : Option St := match d with
  | some d => guardC P cfg C base nt all (get env d) want dst op rest env h
  | none => none
@[simp] theorem guardE_some (base nt : Nat) (all : Array Oper) (d : Tmp) (want : Bool) (dst : Option Tmp) (op : Op) (rest : List Oper) (env : Env) (h : Heap) : guardE P cfg C base nt all (some d) want dst op rest env h = guardC P cfg C base nt all (get env d) want dst op rest env h := rfl
@[simp ↓] theorem opsGuard (base nt : Nat) (all : List Oper) (dst : Option Tmp) (op : Op) (ty : TypeId) (pos : String) (aft : Array Edge) (j : Nat) (want : Bool) (rest : List Oper) (env : Env) (h : Heap) :
    stepOps P cfg C base nt all.toArray (⟨dst, op, ty, pos, aft, some (j, want)⟩ :: rest) env h = guardE P cfg C base nt all.toArray ((all[j]?).bind (·.dst)) want dst op rest env h := by
  cases hd : (all[j]?).bind (·.dst) with
  | some d => rw [ops_guard base nt all dst op ty pos aft j want rest env h d hd]; rfl
  | none => simp only [stepOps, guardOk, List.getElem?_toArray, hd, guardE]

/-! append, and parts of slices. -/
@[simp] theorem szOk_nil (n : Nat) : szOk n [] = true := rfl
@[simp] theorem szOk_cons (n : Nat) (r : List A) (rows : List (List A)) : szOk n (r :: rows) = ((r.length == n && r.all stor1) && szOk n rows) := rfl
@[simp] theorem szOk_app (n : Nat) (a b : List (List A)) : szOk n (a ++ b) = (szOk n a && szOk n b) := by simp [szOk]
theorem szOk_take {n : Nat} {a : List (List A)} (k : Nat) (h : szOk n a = true) : szOk n (a.take k) = true := by
  simp only [szOk, List.all_eq_true] at h ⊢
  exact fun x hx => h x (List.mem_of_mem_take hx)
theorem szOk_drop {n : Nat} {a : List (List A)} (k : Nat) (h : szOk n a = true) : szOk n (a.drop k) = true := by
  simp only [szOk, List.all_eq_true] at h ⊢
  exact fun x hx => h x (List.mem_of_mem_drop hx)
@[simp] theorem szOk_rep (n k : Nat) (r : List A) (h : (r.length == n && r.all stor1) = true) : szOk n (List.replicate k r) = true := by
  simp only [szOk, List.all_eq_true]
  intro x hx
  rw [List.eq_of_mem_replicate hx]
  exact h
def apK (te : TI) (x : Option Blk) (new : Option (List (List A))) (b ver off n : Nat) (h : Heap) : Option (A × Heap) := match x, new with
  | some (.vec ver' sz rows), some new =>
    if ver = ver' ∧ (sz = te.size ∨ sz = 0) ∧ 0 < te.size ∧ 0 < te.bytes ∧ te.zero.any (fun z => z.length == te.size) = true ∧ szOk te.size new = true then
      if new.length = 0 then some (.own b ver off n, h)
      else if off + n + new.length ≤ rows.length then
        some (.own b ver off (n + new.length), h.set b (.vec ver sz (rows.take (off + n) ++ new ++ rows.drop (off + n + new.length))))
      else if (n + new.length) * te.bytes ≤ 140737488355328 ∧ off = 0 then
        some (.own b (ver + 1) 0 (n + new.length), h.set b (.vec (ver + 1) te.size (rows.take n ++ new)))
      else none
    else none
  | _, _ => none
@[simp] theorem appendA_own (te : TI) (z : Bool) (h : Heap) (b ver off n : Nat) (y : A) : appendA te z h (.own b ver off n) y = apK te h[b]? (srcRows te z h y) b ver off n h := by
  simp only [appendA, apK]
  cases h[b]? with
  | none => rfl
  | some x => cases x <;> first | rfl | (cases srcRows te z h y <;> rfl)
@[simp] theorem apK_nil (te : TI) (sz : Nat) (rows : List (List A)) (b ver off n : Nat) (h : Heap) (h1 : sz = te.size ∨ sz = 0) (h2 : 0 < te.size) (h3 : 0 < te.bytes) (h4 : te.zero.any (fun z => z.length == te.size) = true) :
    apK te (some (.vec ver sz rows)) (some []) b ver off n h = some (.own b ver off n, h) := by
  simp only [apK]
  rw [if_pos ⟨by trivial, h1, h2, h3, h4, by trivial⟩]; rfl
@[simp] theorem apK_in (te : TI) (sz : Nat) (rows new : List (List A)) (b ver off n : Nat) (h : Heap) (h6 : off + n + new.length ≤ rows.length) (h1 : sz = te.size ∨ sz = 0) (h2 : 0 < te.size) (h3 : 0 < te.bytes) (h4 : te.zero.any (fun z => z.length == te.size) = true) (h5 : szOk te.size new = true) (h7 : 0 < new.length) :
    apK te (some (.vec ver sz rows)) (some new) b ver off n h = some (.own b ver off (n + new.length), h.set b (.vec ver sz (rows.take (off + n) ++ new ++ rows.drop (off + n + new.length)))) := by
  simp only [apK]
  rw [if_pos ⟨by trivial, h1, h2, h3, h4, h5⟩, if_neg (by omega), if_pos h6]
@[simp] theorem apK_grow (te : TI) (sz : Nat) (rows new : List (List A)) (b ver n : Nat) (h : Heap) (h6 : rows.length < n + new.length) (h1 : sz = te.size ∨ sz = 0) (h2 : 0 < te.size) (h3 : 0 < te.bytes) (h4 : te.zero.any (fun z => z.length == te.size) = true) (h5 : szOk te.size new = true) (h7 : 0 < new.length) (h8 : (n + new.length) * te.bytes ≤ 140737488355328) :
    apK te (some (.vec ver sz rows)) (some new) b ver 0 n h = some (.own b (ver + 1) 0 (n + new.length), h.set b (.vec (ver + 1) te.size (rows.take n ++ new))) := by
  simp only [apK]
  rw [if_pos ⟨by trivial, h1, h2, h3, h4, h5⟩, if_neg (by omega), if_neg (by omega), if_pos ⟨h8, by trivial⟩]
theorem apK_room (te : TI) (sz : Nat) (rows new : List (List A)) (b ver off n : Nat) (h : Heap) (hb : h[b]? = some (.vec ver sz rows)) (h6 : off + n + new.length ≤ rows.length) (h1 : sz = te.size ∨ sz = 0) (h2 : 0 < te.size) (h3 : 0 < te.bytes) (h4 : te.zero.any (fun z => z.length == te.size) = true) (h5 : szOk te.size new = true) :
    apK te (some (.vec ver sz rows)) (some new) b ver off n h = some (.own b ver off (n + new.length), h.set b (.vec ver sz (rows.take (off + n) ++ new ++ rows.drop (off + n + new.length)))) := by
  cases new with
  | nil =>
    rw [apK_nil te sz rows b ver off n h h1 h2 h3 h4]
    have hbl := (List.getElem?_eq_some_iff.1 hb)
    simp only [List.length_nil, Nat.add_zero, List.append_nil, List.take_append_drop]
    rw [← hbl.2, List.set_getElem_self]
  | cons r new => exact apK_in te sz rows _ b ver off n h h6 h1 h2 h3 h4 h5 (by simp)
def clK (te : TI) (x : Option Blk) (zs : Option (List (List A))) (b ver off n : Nat) (h : Heap) : Option (A × Heap) := match x with
    | some (.vec ver' sz rows) =>
      if ver = ver' then
        (if n = 0 then some (.tup [], h)
        else if sz = te.size ∧ te.zero.any (fun z => z.length == te.size) = true then (match zs with
          | some zs => if szOk te.size zs = true then some (.tup [], h.set b (.vec ver sz (rows.take off ++ zs ++ rows.drop (off + n)))) else none
          | none => none)
        else none)
      else none
    | _ => none
@[simp] theorem clearA_own (te : TI) (h : Heap) (b ver off n : Nat) : clearA te h (.own b ver off n) = clK te h[b]? (zeroRows te n) b ver off n h := rfl
@[simp] theorem clK_zero (te : TI) (zs : Option (List (List A))) (sz : Nat) (rows : List (List A)) (b ver off : Nat) (h : Heap) : clK te (some (.vec ver sz rows)) zs b ver off 0 h = some (.tup [], h) := by
  simp [clK]
@[simp] theorem clK_pos (te : TI) (zs : List (List A)) (sz : Nat) (rows : List (List A)) (b ver off n : Nat) (h : Heap) (h0 : 0 < n) (h1 : sz = te.size) (h2 : te.zero.any (fun z => z.length == te.size) = true) (h3 : szOk te.size zs = true) :
    clK te (some (.vec ver sz rows)) (some zs) b ver off n h = some (.tup [], h.set b (.vec ver sz (rows.take off ++ zs ++ rows.drop (off + n)))) := by
  simp only [clK]
  rw [if_pos (by trivial), if_neg (by omega), if_pos ⟨h1, h2⟩, if_pos h3]
def mkS2 (te : TI) (rows : Option (List (List A))) (n : Nat) (h : Heap) : Option (A × Heap) := match rows with
  | some rows => some (.own h.length 0 0 n, h ++ [.vec 0 te.size rows])
  | none => none
@[simp] theorem mkS2_some (s b : Nat) (g : Bool) (e : Option TypeId) (k : Option IntKind) (i : Bool) (f : List (Nat × TypeId)) (z : Option (List Value)) (rows : List (List A)) (n : Nat) (h : Heap) : mkS2 ⟨s, b, g, e, k, i, f, z⟩ (some rows) n h = some (.own h.length 0 0 n, h ++ [.vec 0 s rows]) := rfl
@[simp] theorem mkS_ok (te : TI) (h : Heap) (l c : Int) (h0 : 0 ≤ l) (h1 : l ≤ c) (h2 : c * te.bytes ≤ 140737488355328) (h3 : c ≤ 9223372036854775807) (h4 : 0 < te.size) (h5 : te.zero.any (fun z => z.length == te.size) = true) : mkS (some te) h (.int .i64 l) (.int .i64 c) = mkS2 te (zeroRows te l.toNat) l.toNat h := by
  rw [mkS_int, if_pos ⟨h0, h1, h2, h3, h4, h5⟩]; rfl
/-- 0 for none, else 1. -/
def gv (n : Nat) : Nat := if n = 0 then 0 else 1
@[simp] theorem gv_zero : gv 0 = 0 := rfl
@[simp] theorem gv_succ (n : Nat) : gv (n + 1) = 1 := rfl
theorem gv_or (c n : Nat) : c * gv n = c ∨ c * gv n = 0 := by unfold gv; split <;> simp
/-- One more behind all: each round makes the row longer. -/
theorem apK_push (te : TI) (i : Nat) (rows : List (List A)) (row : List A) (b : Nat) (h : Heap) (hn : rows.length = i) (h2 : 0 < te.size) (h3 : 0 < te.bytes) (h4 : te.zero.any (fun z => z.length == te.size) = true) (h5 : szOk te.size [row] = true) (h8 : (i + 1) * te.bytes ≤ 140737488355328) :
    apK te (some (.vec i (te.size * gv i) rows)) (some [row]) b i 0 i h = some (.own b (i + 1) 0 (i + 1), h.set b (.vec (i + 1) (te.size * gv (i + 1)) (rows ++ [row]))) := by
  rw [apK_grow te _ rows [row] b i i h (by simp; omega) (gv_or _ _) h2 h3 h4 h5 (by simp) h8]
  simp [List.take_of_length_le (Nat.le_of_eq hn)]
/-- append to a row that is told whole. -/
theorem apK_full (te : TI) (rows new : List (List A)) (b ver n : Nat) (h : Heap) (hb : h[b]? = some (.vec ver te.size rows)) (hn : rows.length = n) (h2 : 0 < te.size) (h3 : 0 < te.bytes) (h4 : te.zero.any (fun z => z.length == te.size) = true) (h5 : szOk te.size new = true) (h8 : (n + new.length) * te.bytes ≤ 140737488355328) :
    apK te (some (.vec ver te.size rows)) (some new) b ver 0 n h = some (.own b (ver + gv new.length) 0 (n + new.length), h.set b (.vec (ver + gv new.length) te.size (rows ++ new))) := by
  cases new with
  | nil =>
    rw [apK_nil te _ rows b ver 0 n h (.inl rfl) h2 h3 h4]
    have hbl := (List.getElem?_eq_some_iff.1 hb)
    simp only [List.length_nil, gv_zero, Nat.add_zero, List.append_nil]
    rw [← hbl.2, List.set_getElem_self]
  | cons r new =>
    rw [apK_grow te _ rows _ b ver n h (by simp; omega) (.inl rfl) h2 h3 h4 h5 (by simp) h8]
    rw [List.take_of_length_le (Nat.le_of_eq hn)]
    rfl
@[simp] theorem srcRows_false (te : TI) (h : Heap) (y : A) : srcRows te false h y = rowsOf h y := rfl
@[simp] theorem srcRows_true (te : TI) (h : Heap) (n : Int) (h0 : 0 ≤ n) (h1 : n ≤ 9223372036854775807) (h2 : n * te.bytes ≤ 281474976710656) : srcRows te true h (.int .i64 n) = zeroRows te n.toNat := by
  simp only [srcRows, if_true]
  rw [if_pos ⟨h0, h1, h2⟩]
@[simp] theorem sliceA_str (size : Option Nat) (h : Heap) (s : List UInt8) (lo hi : Option Int) (h0 : 0 ≤ lo.getD 0) (h1 : lo.getD 0 ≤ hi.getD s.length) (h2 : hi.getD s.length ≤ s.length) : sliceA true size h (.str s) lo hi none = some (.str ((s.drop (lo.getD 0).toNat).take ((hi.getD s.length).toNat - (lo.getD 0).toNat))) := by
  simp only [sliceA]
  rw [if_pos ⟨h0, h1, h2, by trivial, by trivial⟩]
@[simp] theorem sliceA_sl (q : Bool) (size : Nat) (h : Heap) (s : List (List A)) (lo hi : Option Int) (h0 : 0 ≤ lo.getD 0) (h1 : lo.getD 0 ≤ hi.getD s.length) (h2 : hi.getD s.length ≤ s.length) (h3 : szOk size s = true) : sliceA q (some size) h (.sl s) lo hi none = some (.sl ((s.drop (lo.getD 0).toNat).take ((hi.getD s.length).toNat - (lo.getD 0).toNat))) := by
  simp only [sliceA]
  rw [if_pos ⟨h0, h1, h2, by trivial, by simpa using h3⟩]
def slK (size : Option Nat) (x : Option Blk) (b ver off n : Nat) (lo hi mx : Option Int) : Option A := match x with
    | some (.vec ver' sz rows) =>
      let l := lo.getD 0
      let r := hi.getD n
      if ver = ver' ∧ (size = some sz ∨ (sz = 0 ∧ size.isSome = true)) ∧ 0 ≤ l ∧ l ≤ r ∧ r + off ≤ rows.length ∧ (∀ m, mx = some m → r ≤ m ∧ m + off ≤ rows.length) ∧ (mx.isSome = true → hi.isSome = true) then some (if mx.all (fun (m : Int) => decide (m + (off : Int) = (rows.length : Int))) = true then .own b ver (off + l.toNat) (r.toNat - l.toNat) else .undef) else none
    | _ => none
@[simp] theorem sliceA_own (q : Bool) (size : Option Nat) (h : Heap) (b ver off n : Nat) (lo hi mx : Option Int) : sliceA q size h (.own b ver off n) lo hi mx = slK size h[b]? b ver off n lo hi mx := rfl
@[simp] theorem slK_two (size sz : Nat) (rows : List (List A)) (b ver off n : Nat) (lo hi : Option Int) (h0 : 0 ≤ lo.getD 0) (h1 : lo.getD 0 ≤ hi.getD n) (h2 : hi.getD n + off ≤ rows.length) (h3 : sz = size ∨ sz = 0) :
    slK (some size) (some (.vec ver sz rows)) b ver off n lo hi none = some (.own b ver (off + (lo.getD 0).toNat) ((hi.getD n).toNat - (lo.getD 0).toNat)) := by
  simp only [slK]
  rw [if_pos ⟨by trivial, by rcases h3 with e | e <;> simp [e], h0, h1, h2, by simp, by simp⟩]
  rfl
@[simp] theorem slK_three (size sz : Nat) (rows : List (List A)) (b ver off n : Nat) (lo : Option Int) (hi mx : Int) (h0 : 0 ≤ lo.getD 0) (h1 : lo.getD 0 ≤ hi) (h2 : hi ≤ mx) (h2' : mx + off ≤ rows.length) (h3 : sz = size ∨ sz = 0) :
    slK (some size) (some (.vec ver sz rows)) b ver off n lo (some hi) (some mx) = some (if mx + (off : Int) = (rows.length : Int) then .own b ver (off + (lo.getD 0).toNat) (hi.toNat - (lo.getD 0).toNat) else .undef) := by
  simp only [slK]
  rw [if_pos ⟨by trivial, by rcases h3 with e | e <;> simp [e], h0, h1, by simp; omega, by simp; omega, by simp⟩]
  simp
@[simp] theorem capA_own0 (h : Heap) (b ver off n : Nat) : capA h (.own b ver off n) = (match h[b]? with
    | some (.vec ver' sz _) => if ver = ver' ∧ sz = 0 then some 0 else none
    | _ => none) := rfl
@[simp] theorem isIntT_def (u : TypeId) : isIntT P u = (tab P u).map fun tu => tu.ik.isSome := rfl
@[simp] theorem toNat_addN (x : Int) (b : Nat) (h : 0 ≤ x) : (x + (b : Int)).toNat = x.toNat + b := by omega
@[simp] theorem toNat_addL (x : Int) (n : Nat) [NeZero n] (h : 0 ≤ x) : (x + (OfNat.ofNat n : Int)).toNat = x.toNat + n := by
  have : (OfNat.ofNat n : Int) = (n : Int) := rfl
  omega
@[simp] theorem toNat_add1 (x : Int) (h : 0 ≤ x) : (x + 1).toNat = x.toNat + 1 := by omega
@[simp] theorem toNat_subN (x : Int) (b : Nat) (h : 0 ≤ x) : (x - (b : Int)).toNat = x.toNat - b := by omega
@[simp] theorem toNat_sub1 (x : Int) (h : 0 ≤ x) : (x - 1).toNat = x.toNat - 1 := by omega
attribute [simp] i64_in
/-- It ends, and so. -/
def Ex (x : Option (A × Heap)) (Post : A → Heap → Prop) : Prop := ∃ r h, x = some (r, h) ∧ Post r h
theorem Ex.mono {x : Option (A × Heap)} {Q R : A → Heap → Prop} (h : Ex x Q) (hq : ∀ r hp, Q r hp → R r hp) : Ex x R := by
  obtain ⟨r, hp, h1, h2⟩ := h
  exact ⟨r, hp, h1, hq _ _ h2⟩
@[congr] theorem bindS_Out_congr {x x' : Option (A × Heap)} {K : A → Heap → Option St} {Q : X → Env → Heap → Prop} (h : x = x') : Out (toX (bindS x K)) Q = Out (toX (bindS x' K)) Q := by rw [h]
theorem Out_ex {x : Option (A × Heap)} {K : A → Heap → Option St} {Q : X → Env → Heap → Prop} {Post : A → Heap → Prop} (hx : Ex x Post) (k : ∀ r h, Post r h → Out (toX (bindS (some (r, h)) K)) Q) : Out (toX (bindS x K)) Q := by
  obtain ⟨r, h, rfl, hp⟩ := hx
  exact k r h hp
theorem Out_exK {x : Option (A × Heap)} {K : A → Heap → Option St} {Q : X → Env → Heap → Prop} {Post : A → Heap → Prop} {h0 : Heap} {ks : List Nat} (hx : Ex x Post) (k : ∀ r h, Post r h → Out (toX (bindS (callK3 h0 ks (some (r, h))) K)) Q) : Out (toX (bindS (callK3 h0 ks x) K)) Q := by
  obtain ⟨r, h, rfl, hp⟩ := hx
  exact k r h hp
/-- How a body ends that gives something back. -/
def FinE (P : Program) (cfg : Cfg) (f : FuncId) (base : Nat) (res : List ResultVar) (Post : A → Heap → Prop) : X → Env → Heap → Prop
  | .normal, env, h => Ex (retF P cfg f base res ⟨env, h⟩) Post
  | .ret, env, h => Ex (retF P cfg f base res ⟨env, h⟩) Post
  | _, _, _ => False
@[simp] theorem FinE_normal (f : FuncId) (base : Nat) (res : List ResultVar) (Post : A → Heap → Prop) (env : Env) (h : Heap) : FinE P cfg f base res Post .normal env h = Ex (retF P cfg f base res ⟨env, h⟩) Post := rfl
@[simp] theorem FinE_ret (f : FuncId) (base : Nat) (res : List ResultVar) (Post : A → Heap → Prop) (env : Env) (h : Heap) : FinE P cfg f base res Post .ret env h = Ex (retF P cfg f base res ⟨env, h⟩) Post := rfl
@[simp] theorem Ex_some (r : A) (h : Heap) (Post : A → Heap → Prop) : Ex (some (r, h)) Post = Post r h := by
  apply propext
  constructor
  · rintro ⟨r2, h2, e, hp⟩
    injection e with e; injection e with e1 e2
    subst e1; subst e2; exact hp
  · intro hp; exact ⟨r, h, rfl, hp⟩
theorem call_ex {f : FuncId} {fn : Func} {c : Code} {args : List A} {h : Heap} {Post : A → Heap → Prop} (hf : P.funcs[f]? = some fn) (hb : fn.body = some c) (ho : cfg.orc f = none) (hl : okFn fn args.length = true)
    (hx : Out (execω P cfg h.length fn.ntmps c (initEnv 0 args) h) (FinE P cfg f h.length fn.results.toList Post)) : Ex (callω P cfg f args h) Post := by
  obtain ⟨e, env, h', h1, h2⟩ := hx
  cases e with
  | normal =>
    obtain ⟨r, hp, h3, h4⟩ := h2
    exact ⟨r, hp, call_out hf hb ho hl ⟨_, _, _, h1, h3⟩, h4⟩
  | ret =>
    obtain ⟨r, hp, h3, h4⟩ := h2
    exact ⟨r, hp, call_out hf hb ho hl ⟨_, _, _, h1, h3⟩, h4⟩
  | exit i => exact h2.elim
end
end Go.Proofs.Ytckjogpdnkocbaa.Den
