/- A part of the proof: The law FnHuffman is proved for every input: it returns true and its arguments read as before. No condition. How: an abstract run of the program (told in Lean, proved sound against the model) is computed for every drawn list of weights; that no code costs less than Huffman's, and that his fills all room, is proved in plain Lean on lists of trees. -/
import Derived.Test.YtckjogpdnkocbaaDen3
set_option linter.unusedSimpArgs false
set_option linter.unusedVariables false
namespace Go.Proofs.Ytckjogpdnkocbaa.Den
/-! Running a body, up to its loops. -/
section
variable {P : Program} {cfg : Cfg} {C : CallFn}

/-- It ends, and so. -/
def Out (x : Option (X × St)) (Q : X → Env → Heap → Prop) : Prop := ∃ e env h, x = some (e, ⟨env, h⟩) ∧ Q e env h
@[congr] theorem Out_congr {x x' : Option (X × St)} {Q : X → Env → Heap → Prop} (h : x = x') : Out x Q = Out x' Q := by rw [h]
theorem Out.mono {x : Option (X × St)} {Q R : X → Env → Heap → Prop} (h : Out x Q) (hq : ∀ e env hp, Q e env hp → R e env hp) : Out x R := by
  obtain ⟨e, env, hp, h1, h2⟩ := h
  exact ⟨e, env, hp, h1, hq _ _ _ h2⟩
@[simp] theorem Out_some (e : X) (env : Env) (h : Heap) (Q : X → Env → Heap → Prop) : Out (some (e, ⟨env, h⟩)) Q = Q e env h := by
  apply propext
  constructor
  · rintro ⟨e2, env2, h2, hx, hq⟩
    injection hx with hx; injection hx with e1 e2; injection e2 with e2 e3
    subst e1; subst e2; subst e3; exact hq
  · intro hq; exact ⟨e, env, h, rfl, hq⟩
def Thn (K : St → Option (X × St)) (Q : X → Env → Heap → Prop) : X → Env → Heap → Prop
  | .normal, env, h => Out (K ⟨env, h⟩) Q
  | e, env, h => Q e env h
@[simp] theorem Thn_normal (K : St → Option (X × St)) (Q : X → Env → Heap → Prop) (env : Env) (h : Heap) : Thn K Q .normal env h = Out (K ⟨env, h⟩) Q := rfl
@[simp] theorem Thn_exit (K : St → Option (X × St)) (Q : X → Env → Heap → Prop) (i : Nat) (env : Env) (h : Heap) : Thn K Q (.exit i) env h = Q (.exit i) env h := rfl
@[simp] theorem Thn_ret (K : St → Option (X × St)) (Q : X → Env → Heap → Prop) (env : Env) (h : Heap) : Thn K Q .ret env h = Q .ret env h := rfl
def InB (id : Nat) (Q : X → Env → Heap → Prop) : X → Env → Heap → Prop
  | .exit i, env, h => if i = id then Q .normal env h else Q (.exit i) env h
  | e, env, h => Q e env h
@[simp] theorem InB_normal (id : Nat) (Q : X → Env → Heap → Prop) (env : Env) (h : Heap) : InB id Q .normal env h = Q .normal env h := rfl
@[simp] theorem InB_ret (id : Nat) (Q : X → Env → Heap → Prop) (env : Env) (h : Heap) : InB id Q .ret env h = Q .ret env h := rfl
@[simp] theorem InB_exit (id : Nat) (Q : X → Env → Heap → Prop) (i : Nat) (env : Env) (h : Heap) : InB id Q (.exit i) env h = if i = id then Q .normal env h else Q (.exit i) env h := rfl
@[simp ↓] theorem Out_bindX (x : Option (X × St)) (K : St → Option (X × St)) (Q : X → Env → Heap → Prop) : Out (bindX x K) Q = Out x (Thn K Q) := by
  apply propext
  constructor
  · rintro ⟨e, env, h, hx, hq⟩
    cases x with
    | none => simp at hx
    | some o =>
      obtain ⟨e1, env1, h1⟩ := o
      cases e1 with
      | normal => exact ⟨_, _, _, rfl, e, env, h, hx, hq⟩
      | exit i => simp only [bindX, Option.some.injEq, Prod.mk.injEq, St.mk.injEq] at hx; obtain ⟨rfl, rfl, rfl⟩ := hx; exact ⟨_, _, _, rfl, hq⟩
      | ret => simp only [bindX, Option.some.injEq, Prod.mk.injEq, St.mk.injEq] at hx; obtain ⟨rfl, rfl, rfl⟩ := hx; exact ⟨_, _, _, rfl, hq⟩
  · rintro ⟨e, env, h, rfl, hq⟩
    cases e with
    | normal => exact hq
    | exit i => exact ⟨_, _, _, rfl, hq⟩
    | ret => exact ⟨_, _, _, rfl, hq⟩
@[simp ↓] theorem Out_outB (id : Nat) (x : Option (X × St)) (Q : X → Env → Heap → Prop) : Out (outB id x) Q = Out x (InB id Q) := by
  apply propext
  constructor
  · rintro ⟨e, env, h, hx, hq⟩
    cases x with
    | none => simp [outB] at hx
    | some o =>
      obtain ⟨e1, env1, h1⟩ := o
      cases e1 with
      | normal => simp only [outB, Option.some.injEq, Prod.mk.injEq, St.mk.injEq] at hx; obtain ⟨rfl, rfl, rfl⟩ := hx; exact ⟨_, _, _, rfl, hq⟩
      | exit i =>
        refine ⟨_, _, _, rfl, ?_⟩
        simp only [outB] at hx
        show (if i = id then Q .normal env1 h1 else Q (.exit i) env1 h1)
        split at hx
        · rename_i hi
          simp only [Option.some.injEq, Prod.mk.injEq, St.mk.injEq] at hx; obtain ⟨rfl, rfl, rfl⟩ := hx
          rw [if_pos hi]; exact hq
        · rename_i hi
          simp only [Option.some.injEq, Prod.mk.injEq, St.mk.injEq] at hx; obtain ⟨rfl, rfl, rfl⟩ := hx
          rw [if_neg hi]; exact hq
      | ret => simp only [outB, Option.some.injEq, Prod.mk.injEq, St.mk.injEq] at hx; obtain ⟨rfl, rfl, rfl⟩ := hx; exact ⟨_, _, _, rfl, hq⟩
  · rintro ⟨e, env, h, rfl, hq⟩
    cases e with
    | normal => exact ⟨_, _, _, rfl, hq⟩
    | exit i =>
      have hq' : (if i = id then Q .normal env h else Q (.exit i) env h) := hq
      by_cases hi : i = id
      · rw [if_pos hi] at hq'
        exact ⟨.normal, env, h, by simp [outB, hi], hq'⟩
      · rw [if_neg hi] at hq'
        exact ⟨.exit i, env, h, by simp [outB, hi], hq'⟩
    | ret => exact ⟨_, _, _, rfl, hq⟩
@[simp] theorem Out_kont (base nt : Nat) (c : Code) (s : St) (Q : X → Env → Heap → Prop) : Out (kont P cfg base nt c s) Q = Out (execω P cfg base nt c s.env s.heap) Q := rfl
theorem Out_loop (base nt : Nat) (c : Code) (env : Env) (h : Heap) (Q : X → Env → Heap → Prop) : Out (execω P cfg base nt (.loop c) env h) Q = Out (execω P cfg base nt c env h) (Thn (kont P cfg base nt (.loop c)) Q) := by
  rw [ω_loop', Out_bindX]

theorem Out_if {base nt : Nat} {a b : Code} {env : Env} {h : Heap} {t : Bool} {Q : X → Env → Heap → Prop} (h1 : t = true → Out (execω P cfg base nt a env h) Q) (h2 : t = false → Out (execω P cfg base nt b env h) Q) : Out (condC P cfg base nt t a b env h) Q := by
  cases t
  · exact h2 rfl
  · exact h1 rfl
theorem Out_ifG {base nt : Nat} {all : Array Oper} {want : Bool} {dst : Option Tmp} {op : Op} {rest : List Oper} {env : Env} {h : Heap} {t : Bool} {Q : X → Env → Heap → Prop}
    (h1 : t = true → Out (toX (guardC P cfg C base nt all (.bool true) want dst op rest env h)) Q) (h2 : t = false → Out (toX (guardC P cfg C base nt all (.bool false) want dst op rest env h)) Q) : Out (toX (guardC P cfg C base nt all (.bool t) want dst op rest env h)) Q := by
  cases t
  · exact h2 rfl
  · exact h1 rfl
@[congr] theorem toX_congr {x x' : Option St} (h : x = x') : toX x = toX x' := by rw [h]

/-- What a round of a loop leaves: a lesser state, or the end. -/
def Rnd {σ : Type} (I : σ → Env → Heap → Prop) (μ : σ → Nat) (s : σ) (Q : X → Env → Heap → Prop) : X → Env → Heap → Prop
  | .normal, env, h => ∃ s', μ s' < μ s ∧ I s' env h
  | e, env, h => Q e env h
@[simp] theorem Rnd_normal {σ : Type} (I : σ → Env → Heap → Prop) (μ : σ → Nat) (s : σ) (Q : X → Env → Heap → Prop) (env : Env) (h : Heap) : Rnd I μ s Q .normal env h = ∃ s', μ s' < μ s ∧ I s' env h := rfl
@[simp] theorem Rnd_ret {σ : Type} (I : σ → Env → Heap → Prop) (μ : σ → Nat) (s : σ) (Q : X → Env → Heap → Prop) (env : Env) (h : Heap) : Rnd I μ s Q .ret env h = Q .ret env h := rfl
@[simp] theorem Rnd_exit {σ : Type} (I : σ → Env → Heap → Prop) (μ : σ → Nat) (s : σ) (Q : X → Env → Heap → Prop) (i : Nat) (env : Env) (h : Heap) : Rnd I μ s Q (.exit i) env h = Q (.exit i) env h := rfl
theorem Out_iter {σ : Type} (I : σ → Env → Heap → Prop) (μ : σ → Nat) (Q : X → Env → Heap → Prop) {base nt : Nat} {c : Code} (step : ∀ s env h, I s env h → Out (execω P cfg base nt c env h) (Rnd I μ s Q)) :
    ∀ (s : σ) (env : Env) (h : Heap), I s env h → Out (execω P cfg base nt (.loop c) env h) Q := by
  have key : ∀ (n : Nat) (s : σ) (env : Env) (h : Heap), μ s ≤ n → I s env h → Out (execω P cfg base nt (.loop c) env h) Q := by
    intro n
    induction n with
    | zero =>
      intro s env h hn hI
      rw [Out_loop]
      refine (step s env h hI).mono ?_
      intro e env' h' hr
      cases e with
      | normal => obtain ⟨s', hlt, _⟩ := hr; omega
      | exit i => exact hr
      | ret => exact hr
    | succ n ih =>
      intro s env h hn hI
      rw [Out_loop]
      refine (step s env h hI).mono ?_
      intro e env' h' hr
      cases e with
      | normal => obtain ⟨s', hlt, hI'⟩ := hr; exact ih s' env' h' (by omega) hI'
      | exit i => exact hr
      | ret => exact hr
  exact fun s env h => key (μ s) s env h (Nat.le_refl _)

/-- How a body ends that gives back r. -/
def Fin (P : Program) (cfg : Cfg) (f : FuncId) (base : Nat) (res : List ResultVar) (r : A × Heap) : X → Env → Heap → Prop
  | .normal, env, h => retF P cfg f base res ⟨env, h⟩ = some r
  | .ret, env, h => retF P cfg f base res ⟨env, h⟩ = some r
  | _, _, _ => False
@[simp] theorem Fin_normal (f : FuncId) (base : Nat) (res : List ResultVar) (r : A × Heap) (env : Env) (h : Heap) : Fin P cfg f base res r .normal env h = (retF P cfg f base res ⟨env, h⟩ = some r) := rfl
@[simp] theorem Fin_ret (f : FuncId) (base : Nat) (res : List ResultVar) (r : A × Heap) (env : Env) (h : Heap) : Fin P cfg f base res r .ret env h = (retF P cfg f base res ⟨env, h⟩ = some r) := rfl

theorem call_out {f : FuncId} {fn : Func} {c : Code} {args : List A} {h : Heap} {r : A × Heap} (hf : P.funcs[f]? = some fn) (hb : fn.body = some c) (ho : cfg.orc f = none) (hl : okFn fn args.length = true)
    (hx : Out (execω P cfg h.length fn.ntmps c (initEnv 0 args) h) (Fin P cfg f h.length fn.results.toList r)) : callω P cfg f args h = some r := by
  obtain ⟨e, env, h', h1, h2⟩ := hx
  simp only [callω, callBy, hf, hb, ho, if_pos hl]
  rw [h1]
  cases e with
  | normal => exact h2
  | ret => exact h2
  | exit i => exact h2.elim

/-- What is stored, the new heap being told. -/
def stored (x : Option Heap) : Option (A × Heap) := match x with
  | some h => some (.undef, h)
  | none => none
@[simp] theorem stored_some (h : Heap) : stored (some h) = some (.undef, h) := rfl
theorem step_store (base : Nat) (t : TypeId) (p x : Operand) (env : Env) (h : Heap) {ti : TI} (ht : tab P t = some ti) : stepOp P cfg C base (.store t p x) env h = stored (storeAt base ti.size (evN env x h).2 (ev env p) (evN env x h).1) := by
  simp only [stepOp, ht]
  cases storeAt base ti.size (evN env x h).2 (ev env p) (evN env x h).1 <;> rfl
theorem step_alloc (base : Nat) (e : TypeId) (env : Env) (h : Heap) {ti : TI} (ht : tab P e = some ti) {z : List Value} (hz : ti.zero = some z) : stepOp P cfg C base (.alloc e) env h = some (.ptr (virtL z h).2.length 0, (virtL z h).2 ++ [.var (virtL z h).1]) := by
  simp only [stepOp, ht, hz]
/-- A slice type's elements. -/
def elemTI (P : Program) (t : TypeId) : Option TI := match tab P t with
  | some ti => match ti.elem with
    | some e => tab P e
    | none => none
  | none => none
def mkS (te : Option TI) (h : Heap) (l c : A) : Option (A × Heap) := match te with
  | some te => match l, c with
    | .int .i64 l, .int .i64 c => if 0 ≤ l ∧ l ≤ c ∧ c * te.bytes ≤ 140737488355328 ∧ c ≤ 9223372036854775807 ∧ 0 < te.size ∧ te.zero.any (fun z => z.length == te.size) = true then
        (match zeroRows te l.toNat with
        | some rows => some (.own h.length 0 0 l.toNat, h ++ [.vec 0 te.size rows])
        | none => none)
      else none
    | _, _ => none
  | none => none
theorem mkS_int (te : TI) (h : Heap) (l c : Int) : mkS (some te) h (.int .i64 l) (.int .i64 c) = if 0 ≤ l ∧ l ≤ c ∧ c * te.bytes ≤ 140737488355328 ∧ c ≤ 9223372036854775807 ∧ 0 < te.size ∧ te.zero.any (fun z => z.length == te.size) = true then
      (match zeroRows te l.toNat with
      | some rows => some (.own h.length 0 0 l.toNat, h ++ [.vec 0 te.size rows])
      | none => none)
    else none := rfl
@[simp] theorem step_makeSlice (base : Nat) (t : TypeId) (l c : Operand) (env : Env) (h : Heap) :
    stepOp P cfg C base (.makeSlice t l c) env h = mkS (elemTI P t) h (ev env l) (ev env c) := by
  simp only [stepOp, elemTI]
  cases tab P t with
  | none => rfl
  | some ti =>
    simp only []
    cases ti.elem with
    | none => rfl
    | some e =>
      simp only []
      cases tab P e <;> rfl
theorem step_nilCheck (base : Nat) (x : Operand) (env : Env) (h : Heap) (hn : nilOk (ev env x) = true) : stepOp P cfg C base (.nilCheck x) env h = some (ev env x, h) := by
  simp only [stepOp, if_pos hn]
theorem step_convert (base : Nat) (s d : TypeId) (x : Operand) (env : Env) (h : Heap) {ts td : TI} (hs : tab P s = some ts) (hd : tab P d = some td) : stepOp P cfg C base (.convert s d x) env h = convA P ts td (ev env x) h := by
  simp only [stepOp, hs, hd]
theorem step_fieldAddr (base : Nat) (t : TypeId) (x : Operand) (i : Nat) (env : Env) (h : Heap) {o : Nat} {ft : TypeId} (hf : fldOff P t i = some (o, ft)) {ti : TI} (ht : tab P ft = some ti) (hs : Nat.blt 0 ti.size = true) : stepOp P cfg C base (.fieldAddr t x i) env h = withH (fieldAddrA (ev env x) o) h := by
  simp [stepOp, hf, ht, hs]
theorem step_extract (base : Nat) (x : Operand) (i : Nat) (env : Env) (h : Heap) {vs : List A} (hx : ev env x = .tup vs) : stepOp P cfg C base (.extract x i) env h = withH vs[i]? h := by
  simp only [stepOp, hx]
theorem step_slice (base : Nat) (t : TypeId) (x : Operand) (lo hi mx : Option Operand) (env : Env) (h : Heap) {l r m : Option Int} (h1 : bndA env lo = some l) (h2 : bndA env hi = some r) (h3 : bndA env mx = some m) : stepOp P cfg C base (.slice t x lo hi mx) env h = withH (sliceA ((tab P t).any TI.isStr) (elemSz P t) h (ev env x) l r m) h := by
  simp only [stepOp, h1, h2, h3]
def isIntT (P : Program) (u : TypeId) : Option Bool := (tab P u).map fun tu => tu.ik.isSome
def apA (te : Option TI) (z : Option Bool) (h : Heap) (x y : A) : Option (A × Heap) := match te, z with
  | some te, some z => appendA te z h x y
  | _, _ => none
@[simp] theorem apA_some (te : TI) (z : Bool) (h : Heap) (x y : A) : apA (some te) (some z) h x y = appendA te z h x y := rfl
@[simp] theorem step_append (base : Nat) (x y : Operand) (t u : TypeId) (env : Env) (h : Heap) :
    stepOp P cfg C base (.call { callee := .builtin .append, args := #[x, y], argTypes := #[t, u] }) env h = apA (elemTI P t) (isIntT P u) h (ev env x) (ev env y) := by
  simp only [stepOp, builtinA, elemTI, isIntT, List.map]
  cases tab P t with
  | none => rfl
  | some ti =>
    cases tab P u with
    | none => simp; cases ti.elem with
      | none => rfl
      | some e => simp; cases tab P e <;> rfl
    | some tu =>
      simp only [Option.map]
      cases ti.elem with
      | none => rfl
      | some e => simp only []; cases tab P e <;> rfl
/-- The rows that are built. -/
def built (te : TI) (n : Nat) (x : Option (List (List A) × Heap)) : Option (A × Heap) := match x with
  | some (rows, h) => some (.own h.length 0 0 n, h ++ [.vec 0 te.size rows])
  | none => none
@[simp] theorem built_some (te : TI) (n : Nat) (rows : List (List A)) (h : Heap) : built te n (some (rows, h)) = some (.own h.length 0 0 n, h ++ [.vec 0 te.size rows]) := rfl
def bldS (te : Option TI) (n m : Nat) (ps : List (Nat × A)) (h : Heap) : Option (A × Heap) := match te with
  | some te => if n = m ∧ n * te.size ≤ 16777216 ∧ 0 < te.size ∧ te.zero.isSome = true then built te n (rowsOfParts te.size 0 ps h) else none
  | none => none
@[simp] theorem bldS_some (te : TI) (n m : Nat) (ps : List (Nat × A)) (h : Heap) : bldS (some te) n m ps h = if n = m ∧ n * te.size ≤ 16777216 ∧ 0 < te.size ∧ te.zero.isSome = true then built te n (rowsOfParts te.size 0 ps h) else none := rfl
@[simp] theorem step_buildSlice (base : Nat) (t : TypeId) (n : Nat) (parts : List (Nat × Operand)) (env : Env) (h : Heap) :
    stepOp P cfg C base (.buildSlice t n parts.toArray) env h = bldS (elemTI P t) n parts.length (evParts env parts h).1 (evParts env parts h).2 := by
  simp only [stepOp, elemTI]
  cases tab P t with
  | none => rfl
  | some ti =>
    simp only []
    cases ti.elem with
    | none => rfl
    | some e =>
      simp only []
      cases tab P e with
      | none => rfl
      | some te =>
        simp only [bldS, List.size_toArray, built]
        split
        · cases rowsOfParts te.size 0 (evParts env parts h).1 (evParts env parts h).2 <;> rfl
        · rfl
end
end Go.Proofs.Ytckjogpdnkocbaa.Den
