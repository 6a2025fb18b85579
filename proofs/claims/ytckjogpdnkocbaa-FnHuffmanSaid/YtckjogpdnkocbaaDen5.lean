/- A part of the proof: The law FnHuffman is proved for every input: it returns true and its arguments read as before. No condition. How: an abstract run of the program (told in Lean, proved sound against the model) is computed for every drawn list of weights; that no code costs less than Huffman's, and that his fills all room, is proved in plain Lean on lists of trees. -/
import Derived.Test.YtckjogpdnkocbaaDen4
set_option linter.unusedSimpArgs false
set_option linter.unusedVariables false
namespace Go.Proofs.Ytckjogpdnkocbaa.Den
/-! Regions that draw their order, told step by step. -/

structure DOp where
  dst : Option Tmp
  op : Op
  g : Option (Tmp × Bool)

inductive DS where
  | q (o : DOp)
  | e (o : DOp) (chk : List DOp)

/-- An operation without its edges. -/
def dop (ops : Array Oper) (i : Nat) : Option DOp := match ops[i]? with
  | some o => match o.guard with
    | none => some ⟨o.dst, o.op, none⟩
    | some (j, w) => match (ops[j]?).bind (·.dst) with
      | some d => some ⟨o.dst, o.op, some (d, w)⟩
      | none => none
  | none => none

def dops (ops : Array Oper) : List Nat → Option (List DOp)
  | [] => some []
  | i :: r => match dop ops i, dops ops r with
    | some o, some os => some (o :: os)
    | _, _ => none

def toDS (ops : Array Oper) : List (Nat × Knd) → List Nat → Option (List DS)
  | [], _ => some []
  | (i, .q) :: r, js => match dop ops i, toDS ops r (i :: js) with
    | some o, some l => some (.q o :: l)
    | _, _ => none
  | (i, .e) :: r, js => match dop ops i, dops ops (js.filter fun j => !afterB ops i j), toDS ops r js with
    | some o, some c, some l => some (.e o c :: l)
    | _, _, _ => none
  | (i, .f) :: r, js => match dop ops i, dops ops (js.filter fun j => !afterB ops i j), toDS ops r js with
    | some o, some c, some l => if o.g.isNone = true then some (.e o c :: l) else none
    | _, _, _ => none

def hidden : List Oper → List (Option Tmp)
  | [] => []
  | o :: r => if isF o.op = true then o.dst :: hidden r else hidden r
def hideD : List (Option Tmp) → Env → Env
  | [], env => env
  | d :: r, env => hideD r (put env d .undef)

def planD (ops : Array Oper) : Option (List (Option Tmp) × List DS) := match plan ops with
  | some ord => match toDS ops ord [] with
    | some l => some (hidden ops.toList, l)
    | none => none
  | none => none

/-- The drawn regions of a body. -/
def dregs : Code → List (Nat × Array Oper)
  | .seq a b => dregs a ++ dregs b
  | .cond _ a b => dregs a ++ dregs b
  | .block _ c => dregs c
  | .loop c => dregs c
  | .region id ops true => [(id, ops)]
  | _ => []
def pickR (id : Nat) : List (Nat × Array Oper) → Array Oper
  | [] => #[]
  | (i, ops) :: r => if Nat.beq i id = true then ops else pickR id r
def rgn (f : Func) (id : Nat) : Array Oper := match f.body with
  | some c => pickR id (dregs c)
  | none => #[]

section
variable {P : Program} {cfg : Cfg} {C : CallFn} {ops : Array Oper}

def guardD (env : Env) : Option (Tmp × Bool) → Option Bool
  | none => some true
  | some (d, want) => match get env d with
    | .bool b => some (b == want)
    | .undef => none
    | _ => some false

noncomputable def keepH (h : Heap) : Option (A × Heap) → Option A
  | some (v, h') => haveI := Classical.propDecidable (h' = h); if h' = h then some v else none
  | none => none

noncomputable def gD (P : Program) (cfg : Cfg) (base : Nat) (o : DOp) (env : Env) (h : Heap) : Option A := match guardD env o.g with
  | some true => keepH h (stepOp P cfg (fun _ _ _ => none) base o.op env h)
  | some false => some .undef
  | none => none

def chkD (P : Program) (cfg : Cfg) (base : Nat) (env : Env) (h : Heap) : List DOp → Prop
  | [] => True
  | o :: r => gD P cfg base o env h = o.dst.map (get env) ∧ chkD P cfg base env h r

noncomputable def runD (P : Program) (cfg : Cfg) (C : CallFn) (base : Nat) : List DS → Env → Heap → Option St
  | [], env, h => some ⟨env, h⟩
  | .q o :: r, env, h => match gD P cfg base o env h with
    | some v => runD P cfg C base r (put env o.dst v) h
    | none => none
  | .e o c :: r, env, h => match guardD env o.g with
    | some true => bindS (stepOp P cfg C base o.op env h) fun v h => ifProm (chkD P cfg base (put env o.dst v) h c) (runD P cfg C base r (put env o.dst v) h)
    | some false => ifProm (chkD P cfg base (put env o.dst .undef) h c) (runD P cfg C base r (put env o.dst .undef) h)
    | none => none

theorem dop_some {i : Nat} {d : DOp} (hd : dop ops i = some d) : ∃ o, ops[i]? = some o ∧ d.dst = o.dst ∧ d.op = o.op ∧ ∀ env, guardOk ops env o.guard = guardD env d.g := by
  unfold dop at hd
  cases ho : ops[i]? with
  | none => simp [ho] at hd
  | some o =>
    simp only [ho] at hd
    cases hg : o.guard with
    | none =>
      simp only [hg, Option.some.injEq] at hd; subst hd
      exact ⟨o, rfl, rfl, rfl, fun env => by rw [hg]; rfl⟩
    | some q =>
      obtain ⟨j, w⟩ := q
      simp only [hg] at hd
      cases hj : (ops[j]?).bind (·.dst) with
      | none => simp [hj] at hd
      | some t =>
        simp only [hj, Option.some.injEq] at hd; subst hd
        exact ⟨o, rfl, rfl, rfl, fun env => by rw [hg]; simp only [guardOk, hj]; rfl⟩

theorem gD_eq {base i : Nat} {d : DOp} (hd : dop ops i = some d) (env : Env) (h : Heap) : gq P cfg base ops i env h = gD P cfg base d env h := by
  obtain ⟨o, ho, h1, h2, h3⟩ := dop_some hd
  unfold gq gD
  simp only [ho, h3, h2]
  cases guardD env d.g with
  | none => rfl
  | some b =>
    cases b with
    | false => rfl
    | true =>
      simp only []
      cases stepOp P cfg (fun _ _ _ => none) base o.op env h <;> rfl

theorem chkD_eq {base i : Nat} : ∀ {js : List Nat} {c : List DOp}, dops ops (js.filter fun j => !afterB ops i j) = some c → ∀ env h, chkD P cfg base env h c → prom P cfg base ops i env h js
  | [], c, hc, env, h, hk => trivial
  | j :: js, c, hc, env, h, hk => by
    unfold prom
    by_cases ha : afterB ops i j = true
    · rw [List.filter_cons_of_neg (by simp [ha])] at hc
      exact ⟨.inl ha, chkD_eq hc env h hk⟩
    · rw [List.filter_cons_of_pos (by simp [ha])] at hc
      simp only [dops] at hc
      cases h1 : dop ops j with
      | none => simp [h1] at hc
      | some o =>
        cases h2 : dops ops (js.filter fun j => !afterB ops i j) with
        | none => simp [h1, h2] at hc
        | some os =>
          simp only [h1, h2, Option.some.injEq] at hc; subst hc
          obtain ⟨k1, k2⟩ := hk
          obtain ⟨o2, ho, e1, _, _⟩ := dop_some h1
          refine ⟨.inr ?_, chkD_eq h2 env h k2⟩
          rw [gD_eq h1, k1]
          simp [dstAt, ho, e1]

theorem runD_eq {base : Nat} : ∀ {ord : List (Nat × Knd)} {js : List Nat} {l : List DS}, toDS ops ord js = some l → ∀ env h s, runD P cfg C base l env h = some s → stepDraw P cfg C base ops ord js env h = some s
  | [], js, l, hl, env, h, s, hs => by
    simp only [toDS, Option.some.injEq] at hl; subst hl
    exact hs
  | (i, .q) :: r, js, l, hl, env, h, s, hs => by
    simp only [toDS] at hl
    cases h1 : dop ops i with
    | none => simp [h1] at hl
    | some o =>
      cases h2 : toDS ops r (i :: js) with
      | none => simp [h1, h2] at hl
      | some l2 =>
        simp only [h1, h2, Option.some.injEq] at hl; subst hl
        simp only [runD] at hs
        obtain ⟨o2, ho, e1, _, _⟩ := dop_some h1
        simp only [stepDraw, gD_eq h1, dstAt, ho, Option.bind_some]
        cases hg : gD P cfg base o env h with
        | none => simp [hg] at hs
        | some v =>
          simp only [hg] at hs ⊢
          rw [← e1]
          exact runD_eq h2 _ _ _ hs
  | (i, .e) :: r, js, l, hl, env, h, s, hs => by
    simp only [toDS] at hl
    cases h1 : dop ops i with
    | none => simp [h1] at hl
    | some o =>
      cases h3 : dops ops (js.filter fun j => !afterB ops i j) with
      | none => simp [h1, h3] at hl
      | some c =>
        cases h2 : toDS ops r js with
        | none => simp [h1, h2, h3] at hl
        | some l2 =>
          simp only [h1, h2, h3, Option.some.injEq] at hl; subst hl
          simp only [runD] at hs
          obtain ⟨o2, ho, e1, e2, e3⟩ := dop_some h1
          simp only [stepDraw, ho, e3]
          cases hg : guardD env o.g with
          | none => simp [hg] at hs
          | some b =>
            cases b with
            | false =>
              simp only [hg, ifProm_some] at hs ⊢
              rw [← e1]
              exact ⟨chkD_eq h3 _ _ hs.1, runD_eq h2 _ _ _ hs.2⟩
            | true =>
              simp only [hg] at hs ⊢
              rw [← e1, ← e2]
              cases hst : stepOp P cfg C base o.op env h with
              | none => simp [hst, bindS] at hs
              | some rr =>
                simp only [hst, bindS, ifProm_some] at hs ⊢
                exact ⟨chkD_eq h3 _ _ hs.1, runD_eq h2 _ _ _ hs.2⟩
  | (i, .f) :: r, js, l, hl, env, h, s, hs => by
    simp only [toDS] at hl
    cases h1 : dop ops i with
    | none => simp [h1] at hl
    | some o =>
      cases h3 : dops ops (js.filter fun j => !afterB ops i j) with
      | none => simp [h1, h3] at hl
      | some c =>
        cases h2 : toDS ops r js with
        | none => simp [h1, h2, h3] at hl
        | some l2 =>
          simp only [h1, h2, h3] at hl
          split at hl
          case isFalse => exact absurd hl (by simp)
          case isTrue hgn =>
          simp only [Option.some.injEq] at hl; subst hl
          simp only [runD] at hs
          obtain ⟨o2, ho, e1, e2, e3⟩ := dop_some h1
          have hgn' : o.g = none := by simpa using hgn
          simp only [stepDraw, ho]
          rw [hgn'] at hs
          simp only [guardD] at hs
          rw [← e1, ← e2]
          cases hst : stepOp P cfg C base o.op env h with
          | none => simp [hst, bindS] at hs
          | some rr =>
            simp only [hst, bindS, ifProm_some] at hs ⊢
            exact ⟨chkD_eq h3 _ _ hs.1, runD_eq h2 _ _ _ hs.2⟩

theorem hideD_eq : ∀ (l : List Oper) (env : Env), hideF l env = hideD (hidden l) env
  | [], env => rfl
  | o :: l, env => by
    unfold hideF hidden
    split
    · exact hideD_eq l _
    · exact hideD_eq l env

/-- A drawn region ends so, if it does in the told order. -/
theorem Out_draw {base nt id : Nat} {ds : List (Option Tmp)} {l : List DS} (hp : planD ops = some (ds, l)) {env : Env} {h : Heap} {Q : X → Env → Heap → Prop} (hx : Out (toX (runD P cfg (callω P cfg) base l (hideD ds env) h)) Q) : Out (execω P cfg base nt (.region id ops true) env h) Q := by
  unfold planD at hp
  cases h1 : plan ops with
  | none => simp [h1] at hp
  | some ord =>
    simp only [h1] at hp
    cases h2 : toDS ops ord [] with
    | none => simp [h2] at hp
    | some l2 =>
      simp only [h2, Option.some.injEq, Prod.mk.injEq] at hp
      obtain ⟨rfl, rfl⟩ := hp
      rw [ω_draw base nt id ops ord h1]
      obtain ⟨e, env', h', hx, hq⟩ := hx
      cases h3 : runD P cfg (callω P cfg) base l2 (hideD (hidden ops.toList) env) h with
      | none => simp [h3, toX] at hx
      | some s =>
        rw [h3] at hx
        refine ⟨e, env', h', ?_, hq⟩
        rw [hideD_eq, runD_eq h2 _ _ _ h3]
        exact hx

@[simp] theorem keepH_some (h : Heap) (v : A) : keepH h (some (v, h)) = some v := by
  unfold keepH
  exact if_pos rfl
@[congr] theorem keepH_congr {h : Heap} {x x' : Option (A × Heap)} (hx : x = x') : keepH h x = keepH h x' := by rw [hx]
/-- What is still to run. -/
noncomputable def kontD (P : Program) (cfg : Cfg) (C : CallFn) (base : Nat) (l : List DS) (env : Env) (d : Option Tmp) (h : Heap) (v : A) : Option St := runD P cfg C base l (put env d v) h
def bindV (x : Option A) (f : A → Option St) : Option St := match x with
  | some v => f v
  | none => none
@[congr] theorem bindV_congr {x x' : Option A} {f : A → Option St} (hx : x = x') : bindV x f = bindV x' f := by rw [hx]
@[simp] theorem bindV_kont (base : Nat) (l : List DS) (env : Env) (d : Option Tmp) (h : Heap) (v : A) : bindV (some v) (kontD P cfg C base l env d h) = runD P cfg C base l (put env d v) h := rfl
noncomputable def kontE (P : Program) (cfg : Cfg) (C : CallFn) (base : Nat) (c : List DOp) (l : List DS) (env : Env) (d : Option Tmp) (v : A) (h : Heap) : Option St := ifProm (chkD P cfg base (put env d v) h c) (runD P cfg C base l (put env d v) h)
@[simp ↓] theorem runD_nil (base : Nat) (env : Env) (h : Heap) : runD P cfg C base [] env h = some ⟨env, h⟩ := rfl
@[simp ↓] theorem runD_q (base : Nat) (d : Option Tmp) (op : Op) (r : List DS) (env : Env) (h : Heap) :
    runD P cfg C base (.q ⟨d, op, none⟩ :: r) env h = bindV (keepH h (stepOp P cfg (fun _ _ _ => none) base op env h)) (kontD P cfg C base r env d h) := by
  simp only [runD, gD, guardD]
  cases keepH h (stepOp P cfg (fun _ _ _ => none) base op env h) <;> rfl
def guardV (b : A) (want : Bool) (x y : Option A) : Option A := match b with
  | .bool b => if b = want then x else y
  | .undef => none
  | _ => y
@[congr] theorem guardV_congr {b b' : A} {want : Bool} {x y : Option A} (h : b = b') : guardV b want x y = guardV b' want x y := by rw [h]
@[simp] theorem guardV_bool (b want : Bool) (x y : Option A) : guardV (.bool b) want x y = if b = want then x else y := rfl
@[simp ↓] theorem runD_qg (base : Nat) (d : Option Tmp) (op : Op) (t : Tmp) (want : Bool) (r : List DS) (env : Env) (h : Heap) :
    runD P cfg C base (.q ⟨d, op, some (t, want)⟩ :: r) env h = bindV (guardV (get env t) want (keepH h (stepOp P cfg (fun _ _ _ => none) base op env h)) (some .undef)) (kontD P cfg C base r env d h) := by
  simp only [runD, gD, guardD]
  cases get env t with
  | bool b =>
    cases b <;> cases want <;> simp only [guardV_bool] <;> first | rfl | (simp; cases keepH h (stepOp P cfg (fun _ _ _ => none) base op env h) <;> rfl)
  | _ => rfl
@[simp ↓] theorem runD_e (base : Nat) (d : Option Tmp) (op : Op) (c : List DOp) (r : List DS) (env : Env) (h : Heap) :
    runD P cfg C base (.e ⟨d, op, none⟩ c :: r) env h = bindS (stepOp P cfg C base op env h) (kontE P cfg C base c r env d) := rfl
@[simp] theorem bindS_kontE (base : Nat) (c : List DOp) (l : List DS) (env : Env) (d : Option Tmp) (v : A) (h : Heap) :
    bindS (some (v, h)) (kontE P cfg C base c l env d) = ifProm (chkD P cfg base (put env d v) h c) (runD P cfg C base l (put env d v) h) := rfl
@[simp] theorem chkD_nil (base : Nat) (env : Env) (h : Heap) : chkD P cfg base env h [] = True := rfl
@[simp] theorem chkD_cons (base : Nat) (d : Option Tmp) (op : Op) (r : List DOp) (env : Env) (h : Heap) : chkD P cfg base env h (⟨d, op, none⟩ :: r) = (keepH h (stepOp P cfg (fun _ _ _ => none) base op env h) = d.map (get env) ∧ chkD P cfg base env h r) := rfl
@[simp] theorem ifProm_true (x : Option St) : ifProm True x = x := by unfold ifProm; exact if_pos trivial
@[congr] theorem ifProm_congr {p p' : Prop} {x : Option St} (hp : p = p') : ifProm p x = ifProm p' x := by rw [hp]
@[simp] theorem hideD_nil (env : Env) : hideD [] env = env := rfl
@[simp] theorem hideD_cons (d : Option Tmp) (r : List (Option Tmp)) (env : Env) : hideD (d :: r) env = hideD r (put env d .undef) := rfl
end
end Go.Proofs.Ytckjogpdnkocbaa.Den
