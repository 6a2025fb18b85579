/- A part of the proof: The law FnHuffman is proved for every input: it returns true and its arguments read as before. No condition. How: an abstract run of the program (told in Lean, proved sound against the model) is computed for every drawn list of weights; that no code costs less than Huffman's, and that his fills all room, is proved in plain Lean on lists of trees. -/
import Derived.ProofKit
import Derived.Carry
import Derived.Test.YtckjogpdnkocbaaDen8
set_option linter.unusedSimpArgs false
set_option linter.unusedVariables false
namespace Go.Proofs.Ytckjogpdnkocbaa.Den
open Go.ChangeShapes Go.WideShapes Go.RowKit

/-- No block of the call's own; none of another. -/
def bare : Phi := ⟨fun _ => none, fun _ => False⟩

section
variable {P : Program} {cfg : Cfg} {W W' : World}

theorem bare_sim (W : World) : Sim [] W bare [] :=
  ⟨fun i j k hi => absurd hi (by simp [bare]), fun i k hi => absurd hi (by simp [bare]), fun B hB => by simp at hB, fun i k hi => absurd hi (by simp [bare]), fun k hk => hk.elim, fun B _ b x _ hx => by simp at hx⟩

theorem bare_out (b : Nat) : bare.out b := ⟨fun i => by simp [bare], fun hc => hc⟩

theorem below_of_tr {φ : Phi} {h : Heap} (T : Tr W bare [] W' φ h) : Below W.heap.size W W' :=
  ⟨T.os, T.tape, T.output, T.size, fun k hk => (T.keep k hk fun i => by simp [bare]).1⟩

/-- A law's call. -/
theorem law_calls (hP : ProgOk P) (hO : OrcOk P cfg) {f : FuncId} {fn : Func} (hf : P.funcs[f]? = some fn) {c : Code} (hb : fn.body = some c) {as : List A} {args : Array Value} (hr : RepL W bare [] 0 as args.toList) {hr' : Heap}
    (hc : callω P cfg f as [] = some (.bool true, hr')) : Calls P f args W fun e W' => e = .returned (.bool true) ∧ Below W.heap.size W W' := by
  rcases callω_ok hP hO hc (bare_sim W) hr with ⟨_, h2⟩ | ⟨v, w', h1, _⟩
  · refine Calls.mono h2 ?_
    rintro e W' ⟨v, φ', rfl, T, S, hv⟩
    cases hv
    exact ⟨rfl, below_of_tr T⟩
  · have := callFunc_enter (w := W) hP hf hb args.toList.toArray
    rw [this] at h1
    injection h1 with h1
    exact absurd h1 (by simp)

theorem Below.trodAll {H : Type} {enc : TypeId × Value → H} (hl : laidOutB P = true) (hb : Below W.heap.size W W') : ∀ {ts : List TypeId} {vs : List Value} {ds : List (DataW H)} {ps : List MemPlace},
    (ts.all fun t => P.readableRec t && decide (t < P.types.size)) = true → DataW.TrodAll enc P W 0 (fun _ => true) true ts vs ds ps → (∀ x, x ∈ ps → x.block < W.heap.size) → DataW.TrodAll enc P W' 0 (fun b => decide (b < W.heap.size)) true ts vs ds ps
  | [], _, _, _, _, h, _ => by
    obtain ⟨rfl, rfl, rfl⟩ := trodAll_nil h
    exact h
  | t :: ts, _, _, _, ht, h, hlt => by
    obtain ⟨v, vs, d, ds, p, q, rfl, rfl, rfl, h1, h2⟩ := trodAll_cons h
    rw [List.all_cons, Bool.and_eq_true, Bool.and_eq_true, decide_eq_true_eq] at ht
    exact ⟨p, q, RowKit.Below.trod hl ht.1.1 ht.1.2 h1 hb fun x hx => hlt x (List.mem_append_left _ hx), Below.trodAll hl hb ht.2 h2 fun x hx => hlt x (List.mem_append_right _ hx), rfl⟩

theorem law_post {H : Type} {enc : TypeId × Value → H} {fn : Func} {s : ChangeSpec} {args : Array Value} {ds gs : List (DataW H)} {before : List MemPlace} (hl : laidOutB P = true) (hv : s.vars = []) {t : TypeId} (hres : fn.resultTypes = #[t]) (hbool : P.underlying t = some .bool)
    (hpar : (fn.params.toList.all fun t => P.readableRec t && decide (t < P.types.size)) = true) (hfn : s.fn H ds = { results := [.lit (.bool true)], args := ds })
    (hW : DataW.Whole enc P fn.params.toList s.vars false W args.toList ds gs before) (hb : Below W.heap.size W W') :
    s.post enc P fn false true false false W args (.bool true) W' := by
  have hW' := hW
  obtain ⟨p, q, hA, hV, rfl, hz, hn⟩ := hW
  rw [hv] at hV
  obtain ⟨rfl, rfl⟩ := trodVars_none hV
  have hlt : ∀ x, x ∈ p ++ [] → x.block < W.heap.size := fun x hx => by simpa using hW'.lt x hx
  have hA' := Below.trodAll hl hb hpar hA fun x hx => hlt x (List.mem_append_left _ hx)
  refine ⟨ds, [], p ++ [], [], p, [], hW', ?_, ?_, ?_, hb.frame _, fun h => absurd h (by simp)⟩
  · rw [List.append_nil, hfn, hres]
    exact trodAll_mk1 (shut_bool hbool true)
  · rw [List.append_nil, hfn]; exact hA'
  · rw [hv, List.append_nil, hfn]; trivial

/-- **A law that answers true, by its told answer.** -/
theorem law_lifted {C : Checked} {os : Os} {H : Type} {enc : TypeId × Value → H} {cfg : Cfg} {f : FuncId} {fn : Func} {s : ChangeSpec} {conds : List PathCond} (own : ownKnob C.prog.godebug = none) (started : os.Started) (noInit : C.prog.inits.idxOf? f = none)
    (hfn : C.prog.funcs[f]? = some fn) {c : Code} (hb : fn.body = some c) (hP : ProgOk C.prog) (hO : OrcOk C.prog cfg) (hl : laidOutB C.prog = true) (hv : s.vars = []) {t : TypeId} (hres : fn.resultTypes = #[t]) (hbool : C.prog.underlying t = some .bool)
    (hpar : (fn.params.toList.all fun t => C.prog.readableRec t && decide (t < C.prog.types.size)) = true)
    (witness : ∃ (w : World) (tape : Tape) (i : Input), w.os = os ∧ (w.forCall tape i).Shaped C.prog ∧ i.vars = [] ∧ Input.okWide C.prog (w.forCall tape i) .any w.heap.size f i ∧
      s.pre6 enc C.prog fn conds false (w.forCall tape i).memory i.args ∧ ({} : Assume).holds C.prog (Go.lone (Frame.enter C.prog f i.args .normal) [] (w.forCall tape i)))
    (h : ∀ (W : World) (base : Nat) (args : Array Value) (ds : List (DataW H)) (p : List MemPlace), (∀ (j : Nat) t v, fn.params[j]? = some t → args[j]? = some v → Value.okWide C.prog W .any base t v) → DataW.TrodAll enc C.prog W 0 (fun _ => true) true fn.params.toList args.toList ds p →
      s.fn H ds = { results := [.lit (.bool true)], args := ds } ∧ ∃ as hr, RepL W bare [] 0 as args.toList ∧ callω C.prog cfg f as [] = some (.bool true, hr)) :
    ReturnsInHanded {} C os f .any (s.pre6 enc C.prog fn conds false) (s.post enc C.prog fn false true false false) := by
  refine returnsInHanded_of_change own started noInit hfn witness ?_
  intro W base args ds gs before hval hW _ _
  obtain ⟨p, q, hA, hV, e, hz, hn⟩ := hW
  obtain ⟨h1, as, hr, h2, h3⟩ := h W base args ds p hval hA
  refine Calls.mono (law_calls hP hO hfn hb h2 h3) ?_
  rintro e W' ⟨rfl, hB⟩
  exact ⟨_, rfl, law_post hl hv hres hbool hpar h1 ⟨p, q, hA, hV, by assumption, hz, hn⟩ hB⟩

theorem rows_of_cells {k : IntKind} {b : Nat} : ∀ (zs : List Int) (off : Nat), (∀ i, i < zs.length → W.cell? ⟨b, off + i, none⟩ = some (.int k (zs.getD i 0))) → RepRows W bare [] b 1 off (zs.map fun n => [A.int k n])
  | [], off, _ => .nil _ _ _
  | z :: zs, off, hc => by
    refine .cons _ _ _ _ _ rfl (.cons _ _ _ _ _ (hc 0 (by simp)) (.int _ _ _) (.nil _ _)) (rows_of_cells zs (off + 1) fun i hi => ?_)
    have := hc (i + 1) (by simpa using hi)
    rw [show off + 1 + i = off + (i + 1) by omega]
    simpa using this

/-- A slice of whole numbers, as an argument. -/
theorem open_ints_rep {H : Type} {enc : TypeId × Value → H} {base : Nat} {t e : TypeId} {k : IntKind} (ht : P.underlying t = some (.slice e)) (he : P.underlying e = some (.int k)) (hc : P.cellsOf e = 1) {v : Value} (hv : Value.okWide P W .any base t v)
    {d : DataW H} {ps : List MemPlace} (h : DataW.Trod enc P W 0 (fun _ => true) true t v d ps) : ∃ zs : List Int, (∀ n, n ∈ zs → (Lit.int k n).wf = true) ∧ zs.length ≤ maxLen ∧ Rep W bare [] 0 (.sl (zs.map fun n => [A.int k n])) v := by
  obtain ⟨ao, len, cap, rfl⟩ := okWide_slice ht hv
  obtain ⟨fuel, hf⟩ := h
  have hf' : DataW.trod enc P W 0 (fun _ => true) true fuel t [.slice ao len cap] = some (d, ps) := hf
  rcases open_ints ht he hc hf' with ⟨hcs, hx⟩ | ⟨a, len', cap', zs, hcs, _, hl, hm, hz, hx, hcell, hwz⟩
  · injection hcs with hcs _
    injection hcs with e1 e2 e3
    subst e1; subst e2; subst e3
    exact ⟨[], by simp, by simp, .sl0 _ _ _⟩
  · injection hcs with hcs _
    injection hcs with e1 e2 e3
    subst e1; subst e2; subst e3
    simp only [if_true] at hz
    refine ⟨zs.take len, fun n hn => hwz n (List.mem_of_mem_take hn), by rw [List.length_take]; omega, ?_⟩
    cases hzl : zs.take len with
    | nil =>
      have : len = 0 := by
        have h1 : (zs.take len).length = 0 := by rw [hzl]; rfl
        rw [List.length_take] at h1; omega
      subst this
      exact .sl0 _ _ _
    | cons z r =>
      have hlen : len = r.length + 1 := by
        have h1 : (zs.take len).length = r.length + 1 := by rw [hzl]; rfl
        rw [List.length_take] at h1; omega
      have hsp : a.spot = none := by
        have := hcell 0 (by omega)
        cases hs : a.spot with
        | none => rfl
        | some sp =>
          simp only [World.cell?, Addr.add] at this
          split at this
          · simp at this; rw [← hs]; exact this.1
          · simp at this
      obtain ⟨ab, aoff, asp⟩ := a
      simp only at hsp
      subst hsp
      have hblk : ab < W.heap.size := by
        have := hcell 0 (by omega)
        simp only [World.cell?, Addr.add] at this
        split at this
        · rename_i hh; exact (Array.getElem?_eq_some_iff.1 hh).1
        · exact absurd this (by simp)
      have hrows := rows_of_cells (W := W) (k := k) (b := ab) (zs.take len) aoff (fun i hi => by
        rw [List.length_take] at hi
        have := hcell i (by omega)
        rw [Addr.add_lit] at this
        rw [this]
        congr 2
        rw [List.getD_eq_getElem?_getD, List.getD_eq_getElem?_getD, List.getElem?_take_of_lt (by omega)])
      rw [hzl] at hrows
      subst hlen
      have := Rep.sl1 (w := W) (φ := bare) (h := []) 0 [A.int k z] (r.map fun n => [A.int k n]) ab aoff 1 cap (by simpa using hl) hblk (bare_out _) hrows
      simpa using this
end
end Go.Proofs.Ytckjogpdnkocbaa.Den
