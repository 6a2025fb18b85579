/- A part of the proof: The law FnHuffman is proved for every input: it returns true and its arguments read as before. No condition. How: an abstract run of the program (told in Lean, proved sound against the model) is computed for every drawn list of weights; that no code costs less than Huffman's, and that his fills all room, is proved in plain Lean on lists of trees. -/
import Derived.Test.YtckjogpdnkocbaaDen1
set_option linter.unusedSimpArgs false
set_option linter.unusedVariables false
namespace Go.Proofs.Ytckjogpdnkocbaa.Den

def leC (C C' : CallFn) : Prop := ∀ f a h r, C f a h = some r → C' f a h = some r
def leE (E E' : Nat → Nat → Code → Env → Heap → Option (X × St)) : Prop := ∀ b n c e h r, E b n c e h = some r → E' b n c e h = some r

section
variable {P : Program} {cfg : Cfg}

theorem callA_mono {C C' : CallFn} (hC : leC C C') (f : FuncId) (args : List A) (h : Heap) (r : A × Heap) (hr : callA C f args h = some r) :
    callA C' f args h = some r := by
  unfold callA at hr ⊢
  cases hs : snaps h args with
  | none => simp [hs] at hr
  | some p =>
    obtain ⟨args', ks⟩ := p
    simp only [hs] at hr ⊢
    by_cases hp : (args'.all pureA) = true
    · rw [if_pos hp] at hr ⊢
      cases hc : C f args' [] with
      | none => simp [hc] at hr
      | some q => rw [hc] at hr; rw [hC _ _ _ _ hc]; exact hr
    · rw [if_neg hp] at hr ⊢
      exact hC _ _ _ _ hr

theorem stepOp_mono {C C' : CallFn} (hC : leC C C') (base : Nat) (op : Op) (env : Env) (h : Heap) (r : A × Heap)
    (hr : stepOp P cfg C base op env h = some r) : stepOp P cfg C' base op env h = some r := by
  unfold stepOp at hr ⊢
  split at hr
  case h_23 =>
    rename_i f args _
    revert hr
    cases ev env f <;> simp only [reduceCtorEq, imp_self]
    split
    · exact hC _ _ _ _
    · exact callA_mono hC _ _ _ _
  all_goals first | exact hr | (simp only [*] at hr ⊢; done) | (simp_all; done)

theorem stepOps_mono {C C' : CallFn} (hC : leC C C') (base nt : Nat) (all : Array Oper) : ∀ (l : List Oper) (env : Env) (h : Heap) (r : St),
    stepOps P cfg C base nt all l env h = some r → stepOps P cfg C' base nt all l env h = some r
  | [], _, _, _, hr => hr
  | o :: rest, env, h, r, hr => by
    simp only [stepOps] at hr ⊢
    cases hg : guardOk all env o.guard with
    | none => simp [hg] at hr
    | some b =>
      cases b with
      | false => simp only [hg] at hr ⊢; exact stepOps_mono hC base nt all rest _ _ _ hr
      | true =>
        simp only [hg] at hr ⊢
        cases hs : stepOp P cfg C base o.op env h with
        | none => simp [hs, bindS] at hr
        | some p =>
          rw [hs] at hr
          rw [stepOp_mono hC base o.op env h p hs]
          exact stepOps_mono hC base nt all rest _ _ _ hr

theorem ifProm_some {p : Prop} {x : Option St} {r : St} : ifProm p x = some r ↔ p ∧ x = some r := by
  unfold ifProm
  by_cases hp : p
  · rw [if_pos hp]; exact ⟨fun h => ⟨hp, h⟩, fun h => h.2⟩
  · rw [if_neg hp]; exact ⟨fun h => absurd h (by simp), fun h => absurd h.1 hp⟩

theorem stepDraw_mono {C C' : CallFn} (hC : leC C C') (base : Nat) (ops : Array Oper) : ∀ (l : List (Nat × Knd)) (js : List Nat) (env : Env) (h : Heap) (r : St),
    stepDraw P cfg C base ops l js env h = some r → stepDraw P cfg C' base ops l js env h = some r
  | [], _, _, _, _, hr => hr
  | (i, .q) :: rest, js, env, h, r, hr => by
    simp only [stepDraw] at hr ⊢
    cases hg : gq P cfg base ops i env h with
    | none => simp [hg] at hr
    | some v => simp only [hg] at hr ⊢; exact stepDraw_mono hC base ops rest _ _ _ _ hr
  | (i, .e) :: rest, js, env, h, r, hr => by
    simp only [stepDraw] at hr ⊢
    cases ho : ops[i]? with
    | none => simp [ho] at hr
    | some o =>
      simp only [ho] at hr ⊢
      cases hg : guardOk ops env o.guard with
      | none => simp [hg] at hr
      | some b =>
        cases b with
        | false => simp only [hg, ifProm_some] at hr ⊢; exact ⟨hr.1, stepDraw_mono hC base ops rest _ _ _ _ hr.2⟩
        | true =>
          simp only [hg] at hr ⊢
          cases hs : stepOp P cfg C base o.op env h with
          | none => simp [hs, bindS] at hr
          | some p =>
            rw [hs] at hr
            rw [stepOp_mono hC base o.op env h p hs]
            simp only [bindS, ifProm_some] at hr ⊢
            exact ⟨hr.1, stepDraw_mono hC base ops rest _ _ _ _ hr.2⟩
  | (i, .f) :: rest, js, env, h, r, hr => by
    simp only [stepDraw] at hr ⊢
    cases ho : ops[i]? with
    | none => simp [ho] at hr
    | some o =>
      simp only [ho] at hr ⊢
      cases hs : stepOp P cfg C base o.op env h with
      | none => simp [hs, bindS] at hr
      | some p =>
        rw [hs] at hr
        rw [stepOp_mono hC base o.op env h p hs]
        simp only [bindS, ifProm_some] at hr ⊢
        exact ⟨hr.1, stepDraw_mono hC base ops rest _ _ _ _ hr.2⟩

theorem finish_mono (f : FuncId) (base : Nat) (res : List ResultVar) {x y : Option (X × St)} (hxy : ∀ r, x = some r → y = some r) (r : A × Heap) (h : finish P cfg f base res x = some r) : finish P cfg f base res y = some r := by
  cases x with
  | none => simp [finish] at h
  | some o => rw [hxy o rfl]; exact h

theorem callBy_mono {E E' : Nat → Nat → Code → Env → Heap → Option (X × St)} (hE : leE E E') : leC (callBy P cfg E) (callBy P cfg E') := by
  intro f args h r hr
  unfold callBy at hr ⊢
  cases ho : cfg.orc f with
  | some g => simp only [ho] at hr ⊢; exact hr
  | none =>
    simp only [ho] at hr ⊢
    cases hf : P.funcs[f]? with
    | none => simp [hf] at hr
    | some fn =>
      simp only [hf] at hr ⊢
      cases hb : fn.body with
      | none => simp [hb] at hr
      | some c =>
        simp only [hb] at hr ⊢
        split at hr
        · rename_i hl; rw [if_pos hl]; exact finish_mono _ _ _ (fun r => hE _ _ _ _ _ r) r hr
        · exact absurd hr (by simp)

theorem bindX_mono {x y : Option (X × St)} {f g : St → Option (X × St)} (hxy : ∀ r, x = some r → y = some r) (hfg : ∀ s r, f s = some r → g s = some r) (r : X × St)
    (h : bindX x f = some r) : bindX y g = some r := by
  cases x with
  | none => simp [bindX] at h
  | some o =>
    rw [hxy o rfl]
    obtain ⟨e, s⟩ := o
    cases e with
    | normal => exact hfg _ _ h
    | exit i => exact h
    | ret => exact h

theorem outB_mono {x y : Option (X × St)} (id : Nat) (hxy : ∀ r, x = some r → y = some r) (r : X × St) (h : outB id x = some r) : outB id y = some r := by
  cases x with
  | none => simp [outB] at h
  | some o => rw [hxy o rfl]; exact h

theorem exec_mono : ∀ k, leE (exec P cfg k) (exec P cfg (k + 1))
  | 0 => fun _ _ _ _ _ _ h => by simp [exec] at h
  | k + 1 => by
    have ih := exec_mono k
    intro b n c e h r hr
    unfold exec at hr ⊢
    split at hr
    · exact hr
    · exact bindX_mono (fun r => ih _ _ _ _ _ r) (fun s r => ih _ _ _ _ _ r) r hr
    · revert hr
      split
      · split
        · exact ih _ _ _ _ _ _
        · exact ih _ _ _ _ _ _
      · exact id
    · exact outB_mono _ (fun r => ih _ _ _ _ _ r) r hr
    · exact bindX_mono (fun r => ih _ _ _ _ _ r) (fun s r => ih _ _ _ _ _ r) r hr
    · exact hr
    · exact hr
    · revert hr
      cases hs : stepOps P cfg (callBy P cfg (exec P cfg k)) b n _ _ e h with
      | none => simp [toX]
      | some s => intro hr; rw [stepOps_mono (callBy_mono ih) b n _ _ e h s hs]; exact hr
    · revert hr
      split
      · rename_i ops _ ord _
        cases hs : stepDraw P cfg (callBy P cfg (exec P cfg k)) b ops ord [] (hideF ops.toList e) h with
        | none => simp [toX]
        | some s => intro hr; rw [stepDraw_mono (callBy_mono ih) b _ _ _ _ _ s hs]; exact hr
      · exact id
    · exact hr

theorem exec_le {k k' : Nat} (hk : k ≤ k') : leE (exec P cfg k) (exec P cfg k') := by
  obtain ⟨d, rfl⟩ := Nat.le.dest hk
  induction d with
  | zero => exact fun _ _ _ _ _ _ h => h
  | succ d ih => exact fun b n c e h r hr => exec_mono _ b n c e h r (ih (by omega) b n c e h r hr)

open Classical in
/-- The limit: whatever enough rounds answer. -/
noncomputable def execω (P : Program) (cfg : Cfg) (base nt : Nat) (c : Code) (env : Env) (h : Heap) : Option (X × St) :=
  if hx : ∃ k o, exec P cfg k base nt c env h = some o then some hx.choose_spec.choose else none

theorem execω_iff {base nt : Nat} {c : Code} {env : Env} {h : Heap} {o : X × St} : execω P cfg base nt c env h = some o ↔ ∃ k, exec P cfg k base nt c env h = some o := by
  constructor
  · intro hx
    unfold execω at hx
    split at hx
    · rename_i hx'
      obtain rfl := Option.some.inj hx
      exact ⟨hx'.choose, hx'.choose_spec.choose_spec⟩
    · exact absurd hx (by simp)
  · rintro ⟨k, hk⟩
    have hx' : ∃ k o, exec P cfg k base nt c env h = some o := ⟨k, o, hk⟩
    unfold execω
    rw [dif_pos hx']
    have h1 := exec_le (Nat.le_max_left k hx'.choose) _ _ _ _ _ _ hk
    have h2 := exec_le (Nat.le_max_right k hx'.choose) _ _ _ _ _ _ hx'.choose_spec.choose_spec
    rw [h1] at h2
    exact h2.symm

theorem opt_ext {α : Type} {x y : Option α} (h : ∀ o, x = some o ↔ y = some o) : x = y := by
  cases x with
  | none => cases y with
    | none => rfl
    | some b => exact ((h b).2 rfl)
  | some a => exact ((h a).1 rfl).symm

noncomputable def callω (P : Program) (cfg : Cfg) : CallFn := callBy P cfg (execω P cfg)

theorem bindX_some {x : Option (X × St)} {f : St → Option (X × St)} {o : X × St} : bindX x f = some o ↔ (∃ s, x = some (.normal, s) ∧ f s = some o) ∨ (x = some o ∧ o.1 ≠ .normal) := by
  cases x with
  | none => simp [bindX]
  | some p =>
    obtain ⟨e, s⟩ := p
    cases e <;> simp [bindX] <;> intro h <;> subst h <;> simp

theorem ω_skip (base nt : Nat) (env : Env) (h : Heap) : execω P cfg base nt .skip env h = some (.normal, ⟨env, h⟩) := execω_iff.2 ⟨1, rfl⟩
theorem ω_exit (base nt id : Nat) (env : Env) (h : Heap) : execω P cfg base nt (.exit id) env h = some (.exit id, ⟨env, h⟩) := execω_iff.2 ⟨1, rfl⟩
theorem ω_ret (base nt : Nat) (env : Env) (h : Heap) : execω P cfg base nt .ret env h = some (.ret, ⟨env, h⟩) := execω_iff.2 ⟨1, rfl⟩
theorem ω_seq (base nt : Nat) (a b : Code) (env : Env) (h : Heap) :
    execω P cfg base nt (.seq a b) env h = bindX (execω P cfg base nt a env h) fun s => execω P cfg base nt b s.env s.heap := by
  apply opt_ext; intro o
  rw [execω_iff, bindX_some]
  constructor
  · rintro ⟨k, hk⟩
    cases k with
    | zero => simp [exec] at hk
    | succ k =>
      simp only [exec] at hk
      rcases bindX_some.1 hk with ⟨s, h1, h2⟩ | ⟨h1, h2⟩
      · exact .inl ⟨s, execω_iff.2 ⟨k, h1⟩, execω_iff.2 ⟨k, h2⟩⟩
      · exact .inr ⟨execω_iff.2 ⟨k, h1⟩, h2⟩
  · rintro (⟨s, h1, h2⟩ | ⟨h1, h2⟩)
    · obtain ⟨k1, h1⟩ := execω_iff.1 h1
      obtain ⟨k2, h2⟩ := execω_iff.1 h2
      refine ⟨max k1 k2 + 1, ?_⟩
      simp only [exec]
      exact bindX_some.2 (.inl ⟨s, exec_le (Nat.le_max_left _ _) _ _ _ _ _ _ h1, exec_le (Nat.le_max_right _ _) _ _ _ _ _ _ h2⟩)
    · obtain ⟨k1, h1⟩ := execω_iff.1 h1
      exact ⟨k1 + 1, by simp only [exec]; exact bindX_some.2 (.inr ⟨h1, h2⟩)⟩
theorem ω_loop (base nt : Nat) (c : Code) (env : Env) (h : Heap) :
    execω P cfg base nt (.loop c) env h = bindX (execω P cfg base nt c env h) fun s => execω P cfg base nt (.loop c) s.env s.heap := by
  apply opt_ext; intro o
  rw [execω_iff, bindX_some]
  constructor
  · rintro ⟨k, hk⟩
    cases k with
    | zero => simp [exec] at hk
    | succ k =>
      simp only [exec] at hk
      rcases bindX_some.1 hk with ⟨s, h1, h2⟩ | ⟨h1, h2⟩
      · exact .inl ⟨s, execω_iff.2 ⟨k, h1⟩, execω_iff.2 ⟨k, h2⟩⟩
      · exact .inr ⟨execω_iff.2 ⟨k, h1⟩, h2⟩
  · rintro (⟨s, h1, h2⟩ | ⟨h1, h2⟩)
    · obtain ⟨k1, h1⟩ := execω_iff.1 h1
      obtain ⟨k2, h2⟩ := execω_iff.1 h2
      refine ⟨max k1 k2 + 1, ?_⟩
      simp only [exec]
      exact bindX_some.2 (.inl ⟨s, exec_le (Nat.le_max_left _ _) _ _ _ _ _ _ h1, exec_le (Nat.le_max_right _ _) _ _ _ _ _ _ h2⟩)
    · obtain ⟨k1, h1⟩ := execω_iff.1 h1
      exact ⟨k1 + 1, by simp only [exec]; exact bindX_some.2 (.inr ⟨h1, h2⟩)⟩
theorem ω_cond (base nt : Nat) (c : Operand) (a b : Code) (env : Env) (h : Heap) {t : Bool} (hc : ev env c = .bool t) :
    execω P cfg base nt (.cond c a b) env h = if t = true then execω P cfg base nt a env h else execω P cfg base nt b env h := by
  apply opt_ext; intro o
  rw [execω_iff]
  constructor
  · rintro ⟨k, hk⟩
    cases k with
    | zero => simp [exec] at hk
    | succ k =>
      simp only [exec, hc] at hk
      split at hk
      · rename_i ht; rw [if_pos ht]; exact execω_iff.2 ⟨k, hk⟩
      · rename_i ht; rw [if_neg ht]; exact execω_iff.2 ⟨k, hk⟩
  · intro hk
    split at hk
    · rename_i ht; obtain ⟨k, hk⟩ := execω_iff.1 hk; exact ⟨k + 1, by simp only [exec, hc]; rw [if_pos ht]; exact hk⟩
    · rename_i ht; obtain ⟨k, hk⟩ := execω_iff.1 hk; exact ⟨k + 1, by simp only [exec, hc]; rw [if_neg ht]; exact hk⟩
theorem ω_block (base nt id : Nat) (c : Code) (env : Env) (h : Heap) : execω P cfg base nt (.block id c) env h = outB id (execω P cfg base nt c env h) := by
  apply opt_ext; intro o
  rw [execω_iff]
  constructor
  · rintro ⟨k, hk⟩
    cases k with
    | zero => simp [exec] at hk
    | succ k =>
      simp only [exec] at hk
      cases hx : exec P cfg k base nt c env h with
      | none => simp [hx, outB] at hk
      | some p => rw [hx] at hk; rw [execω_iff.2 ⟨k, hx⟩]; exact hk
  · intro hk
    cases hx : execω P cfg base nt c env h with
    | none => simp [hx, outB] at hk
    | some p =>
      obtain ⟨k, h1⟩ := execω_iff.1 hx
      exact ⟨k + 1, by simp only [exec]; rw [h1, ← hx]; exact hk⟩

theorem finish_some {f : FuncId} {base : Nat} {res : List ResultVar} {x : Option (X × St)} {r : A × Heap} (h : finish P cfg f base res x = some r) : ∃ o, x = some o := by
  cases x with
  | none => simp [finish] at h
  | some o => exact ⟨o, rfl⟩

/-- A call that the limit answers is answered by enough rounds. -/
theorem callω_some {f : FuncId} {args : List A} {h : Heap} {r : A × Heap} (hr : callω P cfg f args h = some r) : ∃ k, callBy P cfg (exec P cfg k) f args h = some r := by
  unfold callω callBy at hr
  unfold callBy
  cases ho : cfg.orc f with
  | some g => simp only [ho] at hr ⊢; exact ⟨0, hr⟩
  | none =>
    simp only [ho] at hr ⊢
    cases hf : P.funcs[f]? with
    | none => simp [hf] at hr
    | some fn =>
      simp only [hf] at hr ⊢
      cases hb : fn.body with
      | none => simp [hb] at hr
      | some c =>
        simp only [hb] at hr ⊢
        split at hr
        · rename_i hl
          obtain ⟨o, hx⟩ := finish_some hr
          obtain ⟨k, hk⟩ := execω_iff.1 hx
          exact ⟨k, by rw [if_pos hl, hk, ← hx]; exact hr⟩
        · exact absurd hr (by simp)

theorem callBy_le {k k' : Nat} (hk : k ≤ k') : leC (callBy P cfg (exec P cfg k)) (callBy P cfg (exec P cfg k')) := callBy_mono (exec_le hk)
theorem callω_ge (k : Nat) : leC (callBy P cfg (exec P cfg k)) (callω P cfg) := callBy_mono fun _ _ _ _ _ _ h => execω_iff.2 ⟨k, h⟩

theorem callA_fin {f : FuncId} {args : List A} {h : Heap} {r : A × Heap} (hr : callA (callω P cfg) f args h = some r) : ∃ k, callA (callBy P cfg (exec P cfg k)) f args h = some r := by
  unfold callA at hr ⊢
  cases hs : snaps h args with
  | none => simp [hs] at hr
  | some p =>
    obtain ⟨args', ks⟩ := p
    simp only [hs] at hr ⊢
    by_cases hp : (args'.all pureA) = true
    · simp only [if_pos hp] at hr ⊢
      cases hc : callω P cfg f args' [] with
      | none => simp [hc] at hr
      | some q =>
        obtain ⟨k, hk⟩ := callω_some hc
        exact ⟨k, by rw [hk]; rw [hc] at hr; exact hr⟩
    · simp only [if_neg hp] at hr ⊢
      exact callω_some hr

theorem stepOp_fin {base : Nat} {op : Op} {env : Env} {h : Heap} {r : A × Heap} (hr : stepOp P cfg (callω P cfg) base op env h = some r) :
    ∃ k, stepOp P cfg (callBy P cfg (exec P cfg k)) base op env h = some r := by
  unfold stepOp at hr ⊢
  split at hr
  case h_23 =>
    rename_i f args _
    revert hr
    cases ev env f <;> simp only [reduceCtorEq, false_implies]
    split
    · exact callω_some
    · exact callA_fin
  all_goals first | exact ⟨0, hr⟩ | (refine ⟨0, ?_⟩; simp only [*] at hr ⊢; done) | (refine ⟨0, ?_⟩; simp_all; done)

theorem stepOps_fin (base nt : Nat) (all : Array Oper) : ∀ (l : List Oper) (env : Env) (h : Heap) (r : St),
    stepOps P cfg (callω P cfg) base nt all l env h = some r → ∃ k, stepOps P cfg (callBy P cfg (exec P cfg k)) base nt all l env h = some r
  | [], _, _, _, hr => ⟨0, hr⟩
  | o :: rest, env, h, r, hr => by
    simp only [stepOps] at hr ⊢
    cases hg : guardOk all env o.guard with
    | none => simp [hg] at hr
    | some b =>
      cases b with
      | false => simp only [hg] at hr ⊢; exact stepOps_fin base nt all rest _ _ _ hr
      | true =>
        simp only [hg] at hr ⊢
        cases hs : stepOp P cfg (callω P cfg) base o.op env h with
        | none => simp [hs, bindS] at hr
        | some p =>
          obtain ⟨k1, h1⟩ := stepOp_fin hs
          rw [hs] at hr
          obtain ⟨k2, h2⟩ := stepOps_fin base nt all rest _ _ _ hr
          refine ⟨max k1 k2, ?_⟩
          rw [stepOp_mono (callBy_le (Nat.le_max_left k1 k2)) base o.op env h p h1]
          exact stepOps_mono (callBy_le (Nat.le_max_right k1 k2)) base nt all rest _ _ _ h2

theorem ω_region (base nt id : Nat) (l : List Oper) (env : Env) (h : Heap) :
    execω P cfg base nt (.region id l.toArray false) env h = toX (stepOps P cfg (callω P cfg) base nt l.toArray l env h) := by
  apply opt_ext; intro o
  rw [execω_iff]
  constructor
  · rintro ⟨k, hk⟩
    cases k with
    | zero => simp [exec] at hk
    | succ k =>
      simp only [exec] at hk
      cases hs : stepOps P cfg (callBy P cfg (exec P cfg k)) base nt l.toArray l env h with
      | none => simp [hs, toX] at hk
      | some s => rw [stepOps_mono (callω_ge k) base nt _ _ _ _ s hs]; rw [hs] at hk; exact hk
  · intro hk
    cases hs : stepOps P cfg (callω P cfg) base nt l.toArray l env h with
    | none => simp [hs, toX] at hk
    | some s =>
      obtain ⟨k, h1⟩ := stepOps_fin base nt _ _ _ _ s hs
      exact ⟨k + 1, by simp only [exec]; rw [h1, ← hs]; exact hk⟩

theorem stepDraw_fin (base : Nat) (ops : Array Oper) : ∀ (l : List (Nat × Knd)) (js : List Nat) (env : Env) (h : Heap) (r : St),
    stepDraw P cfg (callω P cfg) base ops l js env h = some r → ∃ k, stepDraw P cfg (callBy P cfg (exec P cfg k)) base ops l js env h = some r
  | [], _, _, _, _, hr => ⟨0, hr⟩
  | (i, .q) :: rest, js, env, h, r, hr => by
    simp only [stepDraw] at hr ⊢
    cases hg : gq P cfg base ops i env h with
    | none => simp [hg] at hr
    | some v => simp only [hg] at hr ⊢; exact stepDraw_fin base ops rest _ _ _ _ hr
  | (i, .e) :: rest, js, env, h, r, hr => by
    simp only [stepDraw] at hr ⊢
    cases ho : ops[i]? with
    | none => simp [ho] at hr
    | some o =>
      simp only [ho] at hr ⊢
      cases hg : guardOk ops env o.guard with
      | none => simp [hg] at hr
      | some b =>
        cases b with
        | false =>
          simp only [hg, ifProm_some] at hr ⊢
          obtain ⟨k, hk⟩ := stepDraw_fin base ops rest _ _ _ _ hr.2
          exact ⟨k, hr.1, hk⟩
        | true =>
          simp only [hg] at hr ⊢
          cases hs : stepOp P cfg (callω P cfg) base o.op env h with
          | none => simp [hs, bindS] at hr
          | some p =>
            obtain ⟨k1, h1⟩ := stepOp_fin hs
            rw [hs] at hr
            simp only [bindS, ifProm_some] at hr
            obtain ⟨k2, h2⟩ := stepDraw_fin base ops rest _ _ _ _ hr.2
            refine ⟨max k1 k2, ?_⟩
            rw [stepOp_mono (callBy_le (Nat.le_max_left k1 k2)) base o.op env h p h1]
            simp only [bindS, ifProm_some]
            exact ⟨hr.1, stepDraw_mono (callBy_le (Nat.le_max_right k1 k2)) base _ _ _ _ _ _ h2⟩
  | (i, .f) :: rest, js, env, h, r, hr => by
    simp only [stepDraw] at hr ⊢
    cases ho : ops[i]? with
    | none => simp [ho] at hr
    | some o =>
      simp only [ho] at hr ⊢
      cases hs : stepOp P cfg (callω P cfg) base o.op env h with
      | none => simp [hs, bindS] at hr
      | some p =>
        obtain ⟨k1, h1⟩ := stepOp_fin hs
        rw [hs] at hr
        simp only [bindS, ifProm_some] at hr
        obtain ⟨k2, h2⟩ := stepDraw_fin base ops rest _ _ _ _ hr.2
        refine ⟨max k1 k2, ?_⟩
        rw [stepOp_mono (callBy_le (Nat.le_max_left k1 k2)) base o.op env h p h1]
        simp only [bindS, ifProm_some]
        exact ⟨hr.1, stepDraw_mono (callBy_le (Nat.le_max_right k1 k2)) base _ _ _ _ _ _ h2⟩

theorem ω_draw (base nt id : Nat) (ops : Array Oper) (ord : List (Nat × Knd)) (hp : plan ops = some ord) (env : Env) (h : Heap) :
    execω P cfg base nt (.region id ops true) env h = toX (stepDraw P cfg (callω P cfg) base ops ord [] (hideF ops.toList env) h) := by
  apply opt_ext; intro o
  rw [execω_iff]
  constructor
  · rintro ⟨k, hk⟩
    cases k with
    | zero => simp [exec] at hk
    | succ k =>
      simp only [exec, hp] at hk
      cases hs : stepDraw P cfg (callBy P cfg (exec P cfg k)) base ops ord [] (hideF ops.toList env) h with
      | none => simp [hs, toX] at hk
      | some s => rw [stepDraw_mono (callω_ge k) base _ _ _ _ _ s hs]; rw [hs] at hk; exact hk
  · intro hk
    cases hs : stepDraw P cfg (callω P cfg) base ops ord [] (hideF ops.toList env) h with
    | none => simp [hs, toX] at hk
    | some s =>
      obtain ⟨k, h1⟩ := stepDraw_fin base _ _ _ _ _ s hs
      exact ⟨k + 1, by simp only [exec, hp]; rw [h1, ← hs]; exact hk⟩

end
end Go.Proofs.Ytckjogpdnkocbaa.Den
