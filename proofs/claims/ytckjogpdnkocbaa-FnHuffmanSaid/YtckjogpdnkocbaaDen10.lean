/- A part of the proof: The law FnHuffman is proved for every input: it returns true and its arguments read as before. No condition. How: an abstract run of the program (told in Lean, proved sound against the model) is computed for every drawn list of weights; that no code costs less than Huffman's, and that his fills all room, is proved in plain Lean on lists of trees. -/
import Derived.SizedLaws
import Derived.Test.YtckjogpdnkocbaaDen9
set_option linter.unusedSimpArgs false
set_option linter.unusedVariables false
namespace Go.Proofs.Ytckjogpdnkocbaa.Den
open Go.ChangeShapes Go.WideShapes Go.RowKit
section
variable {P : Program} {cfg : Cfg} {W W' : World}
/-- **A law that answers true, by its told answer.** -/
theorem law_lifted2 {C : Checked} {os : Os} {H : Type} {enc : TypeId × Value → H} {cfg : Cfg} {f : FuncId} {fn : Func} {s : ChangeSpec} {conds : List PathCond} (own : ownKnob C.prog.godebug = none) (started : os.Started) (noInit : C.prog.inits.idxOf? f = none)
    (hfn : C.prog.funcs[f]? = some fn) {c : Code} (hb : fn.body = some c) (hP : ProgOk C.prog) (hO : OrcOk C.prog cfg) (hl : laidOutB C.prog = true) (hv : s.vars = []) {t : TypeId} (hres : fn.resultTypes = #[t]) (hbool : C.prog.underlying t = some .bool)
    (hpar : (fn.params.toList.all fun t => C.prog.readableRec t && decide (t < C.prog.types.size)) = true)
    (witness : ∃ (w : World) (tape : Tape) (i : Input), w.os = os ∧ (w.forCall tape i).Shaped C.prog ∧ i.vars = [] ∧ Input.okWide C.prog (w.forCall tape i) .any w.heap.size f i ∧
      s.pre6 enc C.prog fn conds false (w.forCall tape i).memory i.args ∧ ({} : Assume).holds C.prog (Go.lone (Frame.enter C.prog f i.args .normal) [] (w.forCall tape i)))
    (h : ∀ (W : World) (base : Nat) (args : Array Value) (ds : List (DataW H)) (p : List MemPlace), (∀ (j : Nat) t v, fn.params[j]? = some t → args[j]? = some v → Value.okWide C.prog W .any base t v) → DataW.TrodAll enc C.prog W 0 (fun _ => true) true fn.params.toList args.toList ds p →
      (DataW.weightsEach C.prog fn.params.toList ds).all (· ≤ reachBytes) = true →
      s.fn H ds = { results := [.lit (.bool true)], args := ds } ∧ ∃ as hr, RepL W bare [] 0 as args.toList ∧ callω C.prog cfg f as [] = some (.bool true, hr)) :
    ReturnsInHanded {} C os f .any (s.pre6 enc C.prog fn conds false) (s.post enc C.prog fn false true false false) := by
  refine returnsInHanded_of_change_sized own started noInit hfn witness ?_
  intro W base args ds gs before hval hW _ hsz _
  obtain ⟨p, q, hA, hV, e, hz, hn⟩ := hW
  have hgs : gs = [] := by
    rw [hv] at hV
    exact (trodVars_none hV).1
  have hvt : s.plain.varTypes C.prog = [] := by simp [ChangeSpec.plain, DataSpec.varTypes, hv]
  rw [hvt, hgs, List.append_nil, List.append_nil] at hsz
  obtain ⟨h1, as, hr, h2, h3⟩ := h W base args ds p hval hA hsz
  refine Calls.mono (law_calls hP hO hfn hb h2 h3) ?_
  rintro e W' ⟨rfl, hB⟩
  exact ⟨_, rfl, law_post hl hv hres hbool hpar h1 ⟨p, q, hA, hV, by assumption, hz, hn⟩ hB⟩

/-- A slice of whole numbers, as an argument. -/
theorem open_ints_rep2 {H : Type} {enc : TypeId × Value → H} {base : Nat} {t e : TypeId} {k : IntKind} (ht : P.underlying t = some (.slice e)) (he : P.underlying e = some (.int k)) (hc : P.cellsOf e = 1) {v : Value} (hv : Value.okWide P W .any base t v)
    {d : DataW H} {ps : List MemPlace} (h : DataW.Trod enc P W 0 (fun _ => true) true t v d ps) : ∃ zs : List Int, (∀ n, n ∈ zs → (Lit.int k n).wf = true) ∧ zs.length ≤ maxLen ∧ ((d = .nil ∧ zs = []) ∨ ∃ spare, d = .slice (lits k zs) spare) ∧ Rep W bare [] 0 (.sl (zs.map fun n => [A.int k n])) v := by
  obtain ⟨ao, len, cap, rfl⟩ := okWide_slice ht hv
  obtain ⟨fuel, hf⟩ := h
  have hf' : DataW.trod enc P W 0 (fun _ => true) true fuel t [.slice ao len cap] = some (d, ps) := hf
  rcases open_ints ht he hc hf' with ⟨hcs, hx⟩ | ⟨a, len', cap', zs, hcs, _, hl, hm, hz, hx, hcell, hwz⟩
  · injection hcs with hcs _
    injection hcs with e1 e2 e3
    subst e1; subst e2; subst e3
    exact ⟨[], by simp, by simp, .inl ⟨by injection hx, rfl⟩, .sl0 _ _ _⟩
  · injection hcs with hcs _
    injection hcs with e1 e2 e3
    subst e1; subst e2; subst e3
    simp only [if_true] at hz
    refine ⟨zs.take len, fun n hn => hwz n (List.mem_of_mem_take hn), by rw [List.length_take]; omega, .inr ⟨_, by injection hx⟩, ?_⟩
    cases hzl : zs.take len with
    | nil =>
      have : len = 0 := by
        have h1 : (zs.take len).length = 0 := by rw [hzl]; rfl
        rw [List.length_take] at h1; omega
      subst this
      exact .sl0 _ _ _
    | cons z r =>
      have hlen : len = r.length + 1 := by
        have h1 : (zs.take len).length = r.length + 1 := by rw [hzl]; rfl
        rw [List.length_take] at h1; omega
      have hsp : a.spot = none := by
        have := hcell 0 (by omega)
        cases hs : a.spot with
        | none => rfl
        | some sp =>
          simp only [World.cell?, Addr.add] at this
          split at this
          · simp at this; rw [← hs]; exact this.1
          · simp at this
      obtain ⟨ab, aoff, asp⟩ := a
      simp only at hsp
      subst hsp
      have hblk : ab < W.heap.size := by
        have := hcell 0 (by omega)
        simp only [World.cell?, Addr.add] at this
        split at this
        · rename_i hh; exact (Array.getElem?_eq_some_iff.1 hh).1
        · exact absurd this (by simp)
      have hrows := rows_of_cells (W := W) (k := k) (b := ab) (zs.take len) aoff (fun i hi => by
        rw [List.length_take] at hi
        have := hcell i (by omega)
        rw [Addr.add_lit] at this
        rw [this]
        congr 2
        rw [List.getD_eq_getElem?_getD, List.getD_eq_getElem?_getD, List.getElem?_take_of_lt (by omega)])
      rw [hzl] at hrows
      subst hlen
      have := Rep.sl1 (w := W) (φ := bare) (h := []) 0 [A.int k z] (r.map fun n => [A.int k n]) ab aoff 1 cap (by simpa using hl) hblk (bare_out _) hrows
      simpa using this
/-- How long a slice is at most. -/
theorem sized_ints {H : Type} {ts : List TypeId} {ds : List (DataW H)} (h : (DataW.weightsEach P ts ds).all (· ≤ reachBytes) = true) {j : Nat} {t e : TypeId} {d : DataW H} (ht : ts[j]? = some t) (hd : ds[j]? = some d) (hu : P.underlying t = some (.slice e)) {n : Nat} (hn : P.bytesOf e = n) (hn0 : 0 < n) {k : IntKind} {zs : List Int}
    (hz : (d = .nil ∧ zs = []) ∨ ∃ spare, d = .slice (lits k zs) spare) : zs.length ≤ 140737488351232 := by
  rcases hz with ⟨_, e⟩ | ⟨spare, e⟩
  · subst e; simp
  · subst e
    have := sized_slice h ht hd hu
    rw [hn] at this
    have hl : (lits (H := H) k zs).length = zs.length := by simp [lits]
    rw [hl] at this
    have h1 : reachBytes = 140737488351232 := by decide
    rw [h1] at this
    have h2 : zs.length * 1 ≤ (zs.length + spare.length) * n := Nat.mul_le_mul (by omega) hn0
    omega
end
end Go.Proofs.Ytckjogpdnkocbaa.Den
