/- The law FnHuffman is proved for every input: it returns true and its arguments read as before. No condition. How: an abstract run of the program (told in Lean, proved sound against the model) is computed for every drawn list of weights; that no code costs less than Huffman's, and that his fills all room, is proved in plain Lean on lists of trees. -/
import Derived.Test.YtckjogpdnkocbaaHuW2
set_option linter.unusedSimpArgs false
set_option linter.unusedVariables false
namespace Go.Proofs.Ytckjogpdnkocbaa
open Go.ChangeShapes Go.WideShapes Go.ChangeAt Go.RowKit Go.Proofs.Ytckjogpdnkocbaa.Den
theorem Try.own : ownKnob Try.prog.godebug = none := by kernel_rfl
theorem Try.laidOut : laidOutB Try.prog = true := by kernel_rfl
set_option maxRecDepth 100000 in
theorem huffman_lifted (os : Os) (started : os.Started) (H : Type) (enc : TypeId × Value → H) :
    ReturnsInHanded {} Try.checked os 4 .any (Rows.fnHuffmanSpec.pre6 enc Try.prog Try.f4 Rows.fnHuffmanRow.domain false) (Rows.fnHuffmanSpec.post enc Try.prog Try.f4 false true false false) := by
  refine law_lifted2 (C := Try.checked) (cfg := cf) Try.own started (by kernel_rfl) Try.func4 rfl progOk orcOk Try.laidOut rfl (t := 4) rfl Try.underlying4 (by kernel_rfl)
    (ChangeSpec.witness6 (enc := enc) (C := Try.checked) false ⟨#[], #[.slice none 0 0, .slice none 0 0], []⟩ 8 (by kernel_rfl) (by kernel_rfl) (by kernel_rfl) (by kernel_rfl)) ?_
  intro W base args ds p hval0 hA0 hsz0
  have hval : ∀ (j : Nat) t v, Try.f4.params[j]? = some t → args[j]? = some v → Value.okWide Try.prog W .any base t v := hval0
  have hA : DataW.TrodAll enc Try.prog W 0 (fun _ => true) true Try.f4.params.toList args.toList ds p := hA0
  have hsz : (DataW.weightsEach Try.prog Try.f4.params.toList ds).all (· ≤ reachBytes) = true := hsz0
  rw [Try.params4] at hA hval hsz
  obtain ⟨v0, v1, d0, d1, p0, p1, rfl, rfl, rfl, h0, h1⟩ := trodAll_two hA
  refine ⟨rfl, ?_⟩
  obtain ⟨zs, hz, _, hzd, hr⟩ := open_ints_rep2 Try.underlying29 Try.underlying5 (by kernel_rfl) (hval 0 29 v0 rfl rfl) h0
  obtain ⟨ys, hy, _, hyd, hs⟩ := open_ints_rep2 Try.underlying29 Try.underlying5 (by kernel_rfl) (hval 1 29 v1 rfl rfl) h1
  have hzl := sized_ints hsz (j := 0) rfl rfl Try.underlying29 (n := 1) (by kernel_rfl) (by decide) hzd
  have hyl := sized_ints hsz (j := 1) rfl rfl Try.underlying29 (n := 1) (by kernel_rfl) (by decide) hyd
  exact ⟨[.sl (rowsU zs), .sl (rowsU ys)], [], .cons _ _ _ _ _ hr (.cons _ _ _ _ _ hs (.nil _)), huffLaw_all zs ys (fun x hx => wf_u8 (hz x hx)) (fun x hx => wf_u8 (hy x hx)) (by omega) (by omega)⟩
theorem huffman_holds : Rows.FnHuffmanSaid :=
  OpenClaim.holds_of_wide 4 Try.f4 rfl rfl rfl rfl rfl rfl rfl ⟨rfl, rfl, rfl, rfl, rfl⟩ rfl rfl rfl rfl rfl (by kernel_rfl) Try.func4 (by kernel_rfl)
    (of_decide_eq_true (by kernel_rfl)) (by unfold Func.isWrapper; first | (rw [if_pos (by decide +kernel)]; kernel_rfl) | (rw [if_neg (by decide +kernel)]; exact ⟨rfl, rfl⟩))
    (fun os started H enc _ => huffman_lifted os started H enc)
end Go.Proofs.Ytckjogpdnkocbaa
