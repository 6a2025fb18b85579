/- A part of the proof: The law FnHuffman is proved for every input: it returns true and its arguments read as before. No condition. How: an abstract run of the program (told in Lean, proved sound against the model) is computed for every drawn list of weights; that no code costs less than Huffman's, and that his fills all room, is proved in plain Lean on lists of trees. -/
import Derived.Test.YtckjogpdnkocbaaRows
import Derived.Test.YtckjogpdnkocbaaDen10
import Derived.Test.YtckjogpdnkocbaaHuW1
set_option linter.unusedSimpArgs false
set_option linter.unusedVariables false
namespace Go.Proofs.Ytckjogpdnkocbaa.Den
open Go.Proofs
set_option maxHeartbeats 1000000
set_option maxRecDepth 20000
/-- Where the first one lies of which it holds. -/
def idxP {α : Type} (l : List α) (p : α → Bool) : Int := match l.findIdx? p with
  | some j => j
  | none => -1
theorem idxP_any {α : Type} (l : List α) (p : α → Bool) : decide (0 ≤ idxP l p) = l.any p := by
  unfold idxP
  cases hf : l.findIdx? p with
  | none =>
    rw [List.findIdx?_eq_none_iff] at hf
    have : l.any p = false := by
      rw [List.any_eq_false]
      intro x hx; simp [hf x hx]
    rw [this]; rfl
  | some j =>
    rw [List.findIdx?_eq_some_iff_getElem] at hf
    obtain ⟨hj, hp, _⟩ := hf
    have : l.any p = true := List.any_eq_true.2 ⟨l[j], List.getElem_mem _, hp⟩
    rw [this]; simp
/-- Elements as rows: the row, and the value that is loaded. -/
structure Elt (α : Type) (g : Bool) (s : Nat) where
  enc : α → List A
  val : α → A
  len : ∀ x, (enc x).length = s
  ld : ∀ x, loadA g s (enc x) 0 = some (val x)
  pur : ∀ x, pureA (val x) = true
  snp : ∀ h x, snap h (val x) = some (val x, [])
  ud : ∀ x, isUndef (val x) = false
  cel : ∀ x, loadA g s (val x).cells 0 = some (val x)
def Elt.rows {α : Type} {g : Bool} {s : Nat} (E : Elt α g s) (l : List α) : List (List A) := l.map E.enc
section
variable {α : Type} {g : Bool} {s : Nat} (E : Elt α g s)
@[simp] theorem Elt.rows_len (l : List α) : (E.rows l).length = l.length := by simp [Elt.rows]
@[simp] theorem Elt.rows_get (l : List α) (i : Nat) (h : i < (E.rows l).length) : (E.rows l)[i] = E.enc (l[i]'(by simpa using h)) := by simp [Elt.rows]
@[simp] theorem Elt.rows_get? (l : List α) (i : Nat) : (E.rows l)[i]? = l[i]?.map E.enc := by simp [Elt.rows]
end
/-- A function value that answers as told at each of some elements, whatever the blocks. -/
def TellsE {α : Type} {g : Bool} {s : Nat} (E : Elt α g s) (f : FuncId) (caps : List A) (p : α → Bool) (H : Heap) (l : List α) : Prop := ∀ x, x ∈ l → callV cf (callω Try.prog cf) (.fn f caps) [E.val x] ([E.val x], H) H = some (.bool (p x), H)
theorem indexFunc_I {α : Type} (E : Elt α false 1) (l : List α) (hl : l.length ≤ 1048576) (p : α → Bool) (f : FuncId) (caps : List A) (H : Heap) (hg : TellsE E f caps p H l) :
    callω Try.prog cf 108 [.sl (E.rows l), .fn f caps] H = some (.int .i64 (idxP l p), H) := by
  refine call_out Try.func108 rfl rfl rfl ?_; simp only [Try.f108]
  simp (maxSteps := 4000000) (disch := first | omega | (simp <;> omega) | fail) []
  refine Out.mono (Out_iter (fun (i : Nat) env H' => H' = H ∧ i ≤ l.length ∧ (∀ j (hj : j < l.length), j < i → p l[j] = false) ∧ get env 0 = .sl (E.rows l) ∧ get env 1 = .fn f caps ∧ get env 7 = .int .i64 l.length ∧ get env 8 = .int .i64 i) (fun i => l.length - i)
    (fun e env H' => H' = H ∧ (match l.findIdx? p with
      | some j => e = .ret ∧ get env 4 = .int .i64 (j : Int)
      | none => e = .exit 0)) ?_ 0 _ _ (by simp)) ?_
  · rintro i env H' ⟨rfl, hi, hno, h0, h1, h7, h8⟩
    simp (maxSteps := 4000000) (disch := first | omega | (simp <;> omega) | fail) [h7, h8]
    refine Out_if (fun hc => ?_) (fun hc => ?_)
    · have hlt : i < l.length := by simpa using hc
      have hgi := hg l[i] (List.getElem_mem _)
      have e1 := E.len l[i]
      have e2 := E.ld l[i]
      cases hp : p l[i] with
      | true =>
        have hf : l.findIdx? p = some i := by
          rw [List.findIdx?_eq_some_iff_getElem]
          exact ⟨hlt, hp, fun j hj => by simp [hno j (by omega) hj]⟩
        rw [hp] at hgi
        simp (maxSteps := 4000000) (disch := first | omega | (simp <;> omega) | fail) [-loadA_true, -loadA_false, -callV_fn, h0, h1, h7, h8, e1, e2, hgi, hf]
      | false =>
        rw [hp] at hgi
        simp (maxSteps := 4000000) (disch := first | omega | (simp <;> omega) | fail) [-loadA_true, -loadA_false, -callV_fn, h0, h1, h7, h8, e1, e2, hgi]
        exact ⟨i + 1, by omega, by omega, fun j hj hji => by
          by_cases e : j = i
          · subst e; exact hp
          · exact hno j hj (by omega), by omega⟩
    · have : i = l.length := by simp at hc; omega
      subst this
      have hf : l.findIdx? p = none := by
        rw [List.findIdx?_eq_none_iff]
        intro x hx
        obtain ⟨j, hj, rfl⟩ := List.getElem_of_mem hx
        exact hno j hj hj
      simp (maxSteps := 4000000) (disch := first | omega | (simp <;> omega) | fail) [hf]
  · rintro e env H' ⟨rfl, h⟩
    unfold idxP
    cases hf : l.findIdx? p with
    | none =>
      rw [hf] at h
      subst h
      simp (maxSteps := 4000000) (disch := first | omega | (simp <;> omega) | fail) []
    | some j =>
      rw [hf] at h
      obtain ⟨rfl, h4⟩ := h
      simp (maxSteps := 4000000) (disch := first | omega | (simp <;> omega) | fail) [h4]
theorem containsFunc_I {α : Type} (E : Elt α false 1) (l : List α) (hl : l.length ≤ 1048576) (p : α → Bool) (f : FuncId) (c : A) (cs : List A) (H : Heap) (hg : TellsE E f (c :: cs) p H l) :
    callω Try.prog cf 103 [.sl (E.rows l), .fn f (c :: cs)] H = some (.bool (l.any p), H) := by
  have hi := indexFunc_I E l hl p f (c :: cs) H hg
  refine call_out Try.func103 rfl rfl rfl ?_; simp only [Try.f103]
  simp (maxSteps := 4000000) (disch := first | omega | (simp <;> omega) | fail) [hi, killAll]
  exact idxP_any l p
theorem areAllLit_I {α : Type} (E : Elt α false 1) (x : α) (v : Bool) (f : FuncId) (b : Nat) (H : Heap) (hH : H[b]? = some (.var [.fn f []])) (hr : cf.byRef f = false) (hf : callω Try.prog cf f [E.val x] [] = some (.bool v, [])) :
    callω Try.prog cf 104 [E.val x, .ptr b 0] H = some (.bool (!v), H) := by
  have h1 := E.pur x
  have h2 := E.snp
  have h3 := E.ud x
  have h4 := E.cel x
  obtain ⟨hbl, hb2⟩ := List.getElem?_eq_some_iff.1 hH
  refine call_out Try.func104 rfl rfl rfl ?_; simp only [Try.f104]
  simp (maxSteps := 4000000) (disch := first | omega | (simp <;> omega) | fail) [-cf_ref, -loadA_true, hb2, hr, h1, h2, h3, h4, hf]
theorem areAll_I {α : Type} (E : Elt α false 1) (l : List α) (hl : l.length ≤ 1048576) (p : α → Bool) (f : FuncId) (hr : cf.byRef f = false) (hf : ∀ x, x ∈ l → callω Try.prog cf f [E.val x] [] = some (.bool (p x), [])) :
    callω Try.prog cf 78 [.sl (E.rows l), .fn f []] [] = some (.bool (l.all p), []) := by
  have hc := containsFunc_I E l hl (fun x => !p x) 104 (.ptr 0 0) [] [.var [.fn f []]] (fun x hx => by
    have h2 := E.snp
    have := areAllLit_I E x (p x) f 0 [.var [.fn f []]] rfl hr (hf x hx)
    simp [h2, killAll, this])
  refine call_out Try.func78 rfl rfl rfl ?_; simp only [Try.f78]
  simp (maxSteps := 4000000) (disch := first | omega | (simp <;> omega) | fail) [hc]
  rw [List.not_all_eq_any_not]
theorem indexFunc_E {α : Type} (E : Elt α true 2) (l : List α) (hl : l.length ≤ 1048576) (p : α → Bool) (f : FuncId) (caps : List A) (H : Heap) (hg : TellsE E f caps p H l) :
    callω Try.prog cf 106 [.sl (E.rows l), .fn f caps] H = some (.int .i64 (idxP l p), H) := by
  refine call_out Try.func106 rfl rfl rfl ?_; simp only [Try.f106]
  simp (maxSteps := 4000000) (disch := first | omega | (simp <;> omega) | fail) []
  refine Out.mono (Out_iter (fun (i : Nat) env H' => H' = H ∧ i ≤ l.length ∧ (∀ j (hj : j < l.length), j < i → p l[j] = false) ∧ get env 0 = .sl (E.rows l) ∧ get env 1 = .fn f caps ∧ get env 7 = .int .i64 l.length ∧ get env 8 = .int .i64 i) (fun i => l.length - i)
    (fun e env H' => H' = H ∧ (match l.findIdx? p with
      | some j => e = .ret ∧ get env 4 = .int .i64 (j : Int)
      | none => e = .exit 0)) ?_ 0 _ _ (by simp)) ?_
  · rintro i env H' ⟨rfl, hi, hno, h0, h1, h7, h8⟩
    simp (maxSteps := 4000000) (disch := first | omega | (simp <;> omega) | fail) [h7, h8]
    refine Out_if (fun hc => ?_) (fun hc => ?_)
    · have hlt : i < l.length := by simpa using hc
      have hgi := hg l[i] (List.getElem_mem _)
      have e1 := E.len l[i]
      have e2 := E.ld l[i]
      cases hp : p l[i] with
      | true =>
        have hf : l.findIdx? p = some i := by
          rw [List.findIdx?_eq_some_iff_getElem]
          exact ⟨hlt, hp, fun j hj => by simp [hno j (by omega) hj]⟩
        rw [hp] at hgi
        simp (maxSteps := 4000000) (disch := first | omega | (simp <;> omega) | fail) [-loadA_true, -loadA_false, -callV_fn, h0, h1, h7, h8, e1, e2, hgi, hf]
      | false =>
        rw [hp] at hgi
        simp (maxSteps := 4000000) (disch := first | omega | (simp <;> omega) | fail) [-loadA_true, -loadA_false, -callV_fn, h0, h1, h7, h8, e1, e2, hgi]
        exact ⟨i + 1, by omega, by omega, fun j hj hji => by
          by_cases e : j = i
          · subst e; exact hp
          · exact hno j hj (by omega), by omega⟩
    · have : i = l.length := by simp at hc; omega
      subst this
      have hf : l.findIdx? p = none := by
        rw [List.findIdx?_eq_none_iff]
        intro x hx
        obtain ⟨j, hj, rfl⟩ := List.getElem_of_mem hx
        exact hno j hj hj
      simp (maxSteps := 4000000) (disch := first | omega | (simp <;> omega) | fail) [hf]
  · rintro e env H' ⟨rfl, h⟩
    unfold idxP
    cases hf : l.findIdx? p with
    | none =>
      rw [hf] at h
      subst h
      simp (maxSteps := 4000000) (disch := first | omega | (simp <;> omega) | fail) []
    | some j =>
      rw [hf] at h
      obtain ⟨rfl, h4⟩ := h
      simp (maxSteps := 4000000) (disch := first | omega | (simp <;> omega) | fail) [h4]
theorem containsFunc_E {α : Type} (E : Elt α true 2) (l : List α) (hl : l.length ≤ 1048576) (p : α → Bool) (f : FuncId) (c : A) (cs : List A) (H : Heap) (hg : TellsE E f (c :: cs) p H l) :
    callω Try.prog cf 99 [.sl (E.rows l), .fn f (c :: cs)] H = some (.bool (l.any p), H) := by
  have hi := indexFunc_E E l hl p f (c :: cs) H hg
  refine call_out Try.func99 rfl rfl rfl ?_; simp only [Try.f99]
  simp (maxSteps := 4000000) (disch := first | omega | (simp <;> omega) | fail) [hi, killAll]
  exact idxP_any l p
theorem areAllLit_E {α : Type} (E : Elt α true 2) (x : α) (v : Bool) (f : FuncId) (b : Nat) (H : Heap) (hH : H[b]? = some (.var [.fn f []])) (hr : cf.byRef f = false) (hf : callω Try.prog cf f [E.val x] [] = some (.bool v, [])) :
    callω Try.prog cf 100 [E.val x, .ptr b 0] H = some (.bool (!v), H) := by
  have h1 := E.pur x
  have h2 := E.snp
  have h3 := E.ud x
  have h4 := E.cel x
  obtain ⟨hbl, hb2⟩ := List.getElem?_eq_some_iff.1 hH
  refine call_out Try.func100 rfl rfl rfl ?_; simp only [Try.f100]
  simp (maxSteps := 4000000) (disch := first | omega | (simp <;> omega) | fail) [-cf_ref, -loadA_true, hb2, hr, h1, h2, h3, h4, hf]
theorem areAll_E {α : Type} (E : Elt α true 2) (l : List α) (hl : l.length ≤ 1048576) (p : α → Bool) (f : FuncId) (hr : cf.byRef f = false) (hf : ∀ x, x ∈ l → callω Try.prog cf f [E.val x] [] = some (.bool (p x), [])) :
    callω Try.prog cf 72 [.sl (E.rows l), .fn f []] [] = some (.bool (l.all p), []) := by
  have hc := containsFunc_E E l hl (fun x => !p x) 100 (.ptr 0 0) [] [.var [.fn f []]] (fun x hx => by
    have h2 := E.snp
    have := areAllLit_E E x (p x) f 0 [.var [.fn f []]] rfl hr (hf x hx)
    simp [h2, killAll, this])
  refine call_out Try.func72 rfl rfl rfl ?_; simp only [Try.f72]
  simp (maxSteps := 4000000) (disch := first | omega | (simp <;> omega) | fail) [hc]
  rw [List.not_all_eq_any_not]
end Go.Proofs.Ytckjogpdnkocbaa.Den
namespace Go.Proofs.Ytckjogpdnkocbaa.Den
open Go.Proofs
set_option maxHeartbeats 1000000
set_option maxRecDepth 20000
def EltI : Elt Int false 1 := ⟨fun x => [.int .i64 x], fun x => .int .i64 x, fun _ => rfl, fun _ => rfl, fun _ => rfl, fun _ _ => rfl, fun _ => rfl, fun _ => rfl⟩
theorem EltI_rows (l : List Int) : EltI.rows l = rowsI l := rfl
theorem lit82_den (n : Int) : callω Try.prog cf 82 [EltI.val n] [] = some (.bool (inR 0 23 n), []) := by
  show callω Try.prog cf 82 [.int .i64 n] [] = _
  refine call_out Try.func82 rfl rfl rfl ?_; simp only [Try.f82]
  simp (maxSteps := 4000000) (disch := first | omega | (simp <;> omega) | fail) [within_den]
def okL (l : List Int) : Bool := inR 1 24 l.length && l.all (inR 0 23)
theorem areLengths_den (l : List Int) (hl : l.length ≤ 1048576) : callω Try.prog cf 48 [.sl (rowsI l)] [] = some (.bool (okL l), []) := by
  have h1 := areAll_I EltI l hl (inR 0 23) 82 rfl (fun x _ => lit82_den x)
  rw [EltI_rows] at h1
  refine call_out Try.func48 rfl rfl rfl ?_; simp only [Try.f48]
  generalize hq : inR 1 24 (l.length : Int) = q
  have h2 := within_den (l.length : Int) 1 24
  rw [hq] at h2
  unfold okL
  rw [hq]
  cases q <;> simp (maxSteps := 4000000) (disch := first | omega | (simp <;> omega) | fail) [h1, h2, -within_den]
/-- The room of one length. -/
def krf (n : Int) : Int := if 0 < n then 2 ^ (23 - n).toNat else 0
def kraftS (l : List Int) : Int := l.foldl (fun a n => a + krf n) 0
theorem krf_le (n : Int) (h0 : 0 ≤ n) : 0 ≤ krf n ∧ krf n ≤ 8388608 := by
  unfold krf
  split
  · have h1 : (2 : Int) ^ (23 - n).toNat ≤ 2 ^ 23 := by
      have : (2 : Nat) ^ (23 - n).toNat ≤ 2 ^ 23 := Nat.pow_le_pow_right (by omega) (by omega)
      exact_mod_cast this
    have h2 : (0 : Int) ≤ 2 ^ (23 - n).toNat := Int.pow_nonneg (by omega)
    omega
  · omega
theorem kraftS_le : ∀ (l : List Int) (a : Int), 0 ≤ a → (∀ x, x ∈ l → 0 ≤ x) → 0 ≤ l.foldl (fun a n => a + krf n) a ∧ l.foldl (fun a n => a + krf n) a ≤ a + 8388608 * l.length
  | [], a, ha, _ => by simp; omega
  | x :: l, a, ha, h => by
    have h1 := krf_le x (h x (List.mem_cons_self ..))
    have h2 := kraftS_le l (a + krf x) (by omega) (fun y hy => h y (List.mem_cons_of_mem _ hy))
    simp only [List.foldl_cons, List.length_cons]
    omega
theorem kraft_den (l : List Int) (hl : l.length ≤ 24) (hv : ∀ x, x ∈ l → 0 ≤ x ∧ x ≤ 23) : callω Try.prog cf 49 [.sl (rowsI l)] [] = some (.int .i64 (kraftS l), []) := by
  refine call_out Try.func49 rfl rfl rfl ?_; simp only [Try.f49]
  simp (maxSteps := 4000000) (disch := first | omega | (simp <;> omega) | fail) []
  refine Out.mono (Out_iter (fun (i : Nat) env H => H = [] ∧ i ≤ l.length ∧ get env 6 = .sl (rowsI l) ∧ get env 7 = .int .i64 l.length ∧ get env 8 = .int .i64 i ∧ get env 3 = .int .i64 (kraftS (l.take i))) (fun i => l.length - i)
    (fun e env H => H = [] ∧ e = .exit 0 ∧ get env 3 = .int .i64 (kraftS l)) ?_ 0 _ _ (by simp [kraftS])) ?_
  · rintro i env H ⟨rfl, hi, h6, h7, h8, h3⟩
    simp (maxSteps := 4000000) (disch := first | omega | (simp <;> omega) | fail) [h6, h7, h8]
    refine Out_if (fun hc => ?_) (fun hc => ?_)
    · have hlt : i < l.length := by simpa using hc
      have hvi := hv l[i] (List.getElem_mem _)
      have hk := krf_le l[i] hvi.1
      have hs : kraftS (l.take (i + 1)) = kraftS (l.take i) + krf l[i] := take_foldl _ _ _ _ hlt
      have hle := kraftS_le (l.take i) 0 (by omega) (fun x hx => (hv x (List.mem_of_mem_take hx)).1)
      rw [← kraftS] at hle
      have hln : (l.take i).length ≤ 24 := by simp; omega
      simp (maxSteps := 4000000) (disch := first | omega | (simp <;> omega) | fail) [h6, h7, h8, h3]
      refine Out_if (fun hc => ?_) (fun hc => ?_)
      · have hpos : 0 < l[i] := by simpa using hc
        have hkk : krf l[i] = 2 ^ (23 - l[i]).toNat := if_pos hpos
        have hmin : min (23 - l[i]).toNat IntKind.i64.bits = (23 - l[i]).toNat := Nat.min_eq_left (by simp [IntKind.bits]; omega)
        have hn0 : ¬ (23 - l[i] < 0) := by omega
        rw [hkk] at hs hk
        simp (maxSteps := 4000000) (disch := first | omega | (simp <;> omega) | fail) [h6, h7, h8, h3, hmin, hn0]
        exact ⟨i + 1, by omega, by omega, by omega, by rw [hs]⟩
      · have hpos : ¬ 0 < l[i] := by simpa using hc
        have hkk : krf l[i] = 0 := if_neg hpos
        simp (maxSteps := 4000000) (disch := first | omega | (simp <;> omega) | fail) [h6, h7, h8, h3]
        exact ⟨i + 1, by omega, by omega, by omega, by rw [hs, hkk]; omega⟩
    · have : i = l.length := by simp at hc; omega
      subst this
      simp (maxSteps := 4000000) (disch := first | omega | (simp <;> omega) | fail) [h3]
  · rintro e env H ⟨rfl, rfl, h3⟩
    simp (maxSteps := 4000000) (disch := first | omega | (simp <;> omega) | fail) [h3]
theorem okL_in {l : List Int} (h : okL l = true) : l.length ≤ 24 ∧ ∀ x, x ∈ l → 0 ≤ x ∧ x ≤ 23 := by
  simp [okL, inR] at h
  exact ⟨by omega, h.2⟩
theorem kraftOf_den (l : List Int) (hl : l.length ≤ 1048576) : callω Try.prog cf 15 [.sl (rowsI l)] [] = some (.tup [.int .i64 (if okL l = true then kraftS l else 0), .bool (okL l)], []) := by
  have h1 := areLengths_den l hl
  cases h : okL l with
  | true =>
    rw [h] at h1
    obtain ⟨k1, k2⟩ := okL_in h
    have h2 := kraft_den l k1 k2
    refine call_out Try.func15 rfl rfl rfl ?_; simp only [Try.f15]
    simp (maxSteps := 4000000) (disch := first | omega | (simp <;> omega) | fail) [h1, h2]
  | false =>
    rw [h] at h1
    refine call_out Try.func15 rfl rfl rfl ?_; simp only [Try.f15]
    simp (maxSteps := 4000000) (disch := first | omega | (simp <;> omega) | fail) [h1]
end Go.Proofs.Ytckjogpdnkocbaa.Den
namespace Go.Proofs.Ytckjogpdnkocbaa.Den
open Go.Proofs
set_option maxHeartbeats 1000000
set_option maxRecDepth 20000
theorem index_den (l : List Int) (hl : l.length ≤ 1048576) (v : Int) : callω Try.prog cf 83 [.sl (rowsI l), .int .i64 v] [] = some (.int .i64 (idxP l fun x => decide (v = x)), []) := by
  refine call_out Try.func83 rfl rfl rfl ?_; simp only [Try.f83]
  simp (maxSteps := 4000000) (disch := first | omega | (simp <;> omega) | fail) []
  refine Out.mono (Out_iter (fun (i : Nat) env H' => H' = [] ∧ i ≤ l.length ∧ (∀ j (hj : j < l.length), j < i → ¬ v = l[j]) ∧ get env 0 = .sl (rowsI l) ∧ get env 1 = .int .i64 v ∧ get env 7 = .int .i64 l.length ∧ get env 8 = .int .i64 i) (fun i => l.length - i)
    (fun e env H' => H' = [] ∧ (match l.findIdx? (fun x => decide (v = x)) with
      | some j => e = .ret ∧ get env 4 = .int .i64 (j : Int)
      | none => e = .exit 0)) ?_ 0 _ _ (by simp)) ?_
  · rintro i env H' ⟨rfl, hi, hno, h0, h1, h7, h8⟩
    simp (maxSteps := 4000000) (disch := first | omega | (simp <;> omega) | fail) [h7, h8]
    refine Out_if (fun hc => ?_) (fun hc => ?_)
    · have hlt : i < l.length := by simpa using hc
      simp (maxSteps := 4000000) (disch := first | omega | (simp <;> omega) | fail) [h0, h1, h7, h8]
      refine Out_if (fun hc2 => ?_) (fun hc2 => ?_)
      · have hp : v = l[i] := by simpa using hc2
        have hf : l.findIdx? (fun x => decide (v = x)) = some i := by
          rw [List.findIdx?_eq_some_iff_getElem]
          exact ⟨hlt, by simpa using hp, fun j hj => by simp; exact hno j (by omega) hj⟩
        simp (maxSteps := 4000000) (disch := first | omega | (simp <;> omega) | fail) [h0, h1, h7, h8, hf]
      · have hp : ¬ v = l[i] := by simpa using hc2
        simp (maxSteps := 4000000) (disch := first | omega | (simp <;> omega) | fail) [h0, h1, h7, h8]
        exact ⟨i + 1, by omega, by omega, fun j hj hji => by
          by_cases e : j = i
          · subst e; exact hp
          · exact hno j hj (by omega), by omega⟩
    · have : i = l.length := by simp at hc; omega
      subst this
      have hf : l.findIdx? (fun x => decide (v = x)) = none := by
        rw [List.findIdx?_eq_none_iff]
        intro x hx
        obtain ⟨j, hj, rfl⟩ := List.getElem_of_mem hx
        simp; exact hno j hj hj
      simp (maxSteps := 4000000) (disch := first | omega | (simp <;> omega) | fail) [hf]
  · rintro e env H' ⟨rfl, h⟩
    unfold idxP
    cases hf : l.findIdx? (fun x => decide (v = x)) with
    | none =>
      rw [hf] at h
      subst h
      simp (maxSteps := 4000000) (disch := first | omega | (simp <;> omega) | fail) []
    | some j =>
      rw [hf] at h
      obtain ⟨rfl, h4⟩ := h
      simp (maxSteps := 4000000) (disch := first | omega | (simp <;> omega) | fail) [h4]
theorem contains_den (l : List Int) (hl : l.length ≤ 1048576) (v : Int) : callω Try.prog cf 50 [.sl (rowsI l), .int .i64 v] [] = some (.bool (l.any fun x => decide (v = x)), []) := by
  have h1 := index_den l hl v
  refine call_out Try.func50 rfl rfl rfl ?_; simp only [Try.f50]
  simp (maxSteps := 4000000) (disch := first | omega | (simp <;> omega) | fail) [h1]
  have := idxP_any l (fun x => decide (v = x))
  simpa using this
theorem specLengths_den (l : List Int) (hl : l.length ≤ 1048576) : callω Try.prog cf 53 [.sl (rowsI l)] [] = some (.bool (okL l), []) := by
  refine call_out Try.func53 rfl rfl rfl ?_; simp only [Try.f53]
  simp (maxSteps := 4000000) (disch := first | omega | (simp <;> omega) | fail) []
  refine Out.mono (Out_iter (fun (i : Nat) env H => H = [] ∧ i ≤ l.length ∧ (∀ j (hj : j < l.length), j < i → inR 0 23 l[j] = true) ∧ get env 0 = .sl (rowsI l) ∧ get env 5 = .sl (rowsI l) ∧ get env 6 = .int .i64 l.length ∧ get env 7 = .int .i64 i) (fun i => l.length - i)
    (fun e env H => H = [] ∧ ((l.all (inR 0 23) = true ∧ e = .exit 0 ∧ get env 0 = .sl (rowsI l)) ∨ (l.all (inR 0 23) = false ∧ e = .ret ∧ get env 2 = .bool false))) ?_ 0 _ _ (by simp)) ?_
  · rintro i env H ⟨rfl, hi, hall, h0, h5, h6, h7⟩
    simp (maxSteps := 4000000) (disch := first | omega | (simp <;> omega) | fail) [h6, h7]
    refine Out_if (fun hc => ?_) (fun hc => ?_)
    · have hlt : i < l.length := by simpa using hc
      have h2 := l1In_den l[i] 0 23
      cases hq : inR 0 23 l[i] with
      | true =>
        rw [hq] at h2
        simp (maxSteps := 4000000) (disch := first | omega | (simp <;> omega) | fail) [h0, h5, h6, h7, h2, -l1In_den]
        exact ⟨i + 1, by omega, by omega, fun j hj hji => by
          by_cases e : j = i
          · subst e; exact hq
          · exact hall j hj (by omega), by omega⟩
      | false =>
        rw [hq] at h2
        simp (maxSteps := 4000000) (disch := first | omega | (simp <;> omega) | fail) [h0, h5, h6, h7, h2, -l1In_den]
        exact ⟨l[i], List.getElem_mem _, hq⟩
    · have : i = l.length := by simp at hc; omega
      subst this
      simp (maxSteps := 4000000) (disch := first | omega | (simp <;> omega) | fail) [h0]
      intro x hx
      obtain ⟨j, hj, rfl⟩ := List.getElem_of_mem hx
      exact hall j hj hj
  · rintro e env H ⟨rfl, ⟨ha, rfl, h0⟩ | ⟨ha, rfl, h2⟩⟩
    · simp (maxSteps := 4000000) (disch := first | omega | (simp <;> omega) | fail) [h0, okL, ha]
    · simp (maxSteps := 4000000) (disch := first | omega | (simp <;> omega) | fail) [h2, okL, ha]
/-- The bits of weights by lengths. -/
def cst (a : Int) (p : Int × Int) : Int := a + p.1 * p.2
def costS (w l : List Int) : Int := (w.zip l).foldl cst 0
theorem cst_le : ∀ (z : List (Int × Int)) (a : Int), 0 ≤ a → (∀ p, p ∈ z → 0 ≤ p.1 ∧ p.1 ≤ 100000 ∧ 0 ≤ p.2 ∧ p.2 ≤ 23) → 0 ≤ z.foldl cst a ∧ z.foldl cst a ≤ a + 2300000 * z.length
  | [], a, ha, _ => by simp; omega
  | p :: z, a, ha, h => by
    obtain ⟨h1, h2, h3, h4⟩ := h p (List.mem_cons_self ..)
    have h5 : 0 ≤ p.1 * p.2 := Int.mul_nonneg h1 h3
    have h6 : p.1 * p.2 ≤ 100000 * 23 := Int.mul_le_mul h2 h4 h3 (by omega)
    have := cst_le z (a + p.1 * p.2) (by omega) (fun q hq => h q (List.mem_cons_of_mem _ hq))
    simp only [List.foldl_cons, List.length_cons, cst] at this ⊢
    omega
theorem okW_in {l : List Int} (h : okW l = true) : 2 ≤ l.length ∧ l.length ≤ 24 ∧ ∀ x, x ∈ l → 1 ≤ x ∧ x ≤ 100000 := by
  simp [okW, inR] at h
  exact ⟨by omega, by omega, h.2⟩
/-- Weights and as many lengths, none of them 0. -/
def okC (w l : List Int) : Bool := okW w && okL l && decide (l.length = w.length) && !(l.any fun x => decide ((0 : Int) = x))
theorem cost_step {w l : List Int} (hw : okW w = true) (hl : okL l = true) (he : l.length = w.length) (i : Nat) (hi : i < w.length) : ((w.zip l).take (i + 1)).foldl cst 0 = ((w.zip l).take i).foldl cst 0 + w[i] * l[i]'(by omega) ∧ 0 ≤ w[i] * l[i]'(by omega) ∧ w[i] * l[i]'(by omega) ≤ 2300000 ∧ 0 ≤ ((w.zip l).take i).foldl cst 0 ∧ ((w.zip l).take i).foldl cst 0 ≤ 2300000 * 24 := by
  obtain ⟨_, w2, w3⟩ := okW_in hw
  obtain ⟨l1, l2⟩ := okL_in hl
  have hz : i < (w.zip l).length := by simp; omega
  have h1 := take_foldl cst 0 (w.zip l) i hz
  rw [List.getElem_zip] at h1
  have hle := cst_le ((w.zip l).take i) 0 (by omega) (fun p hp => by
    have hp := List.mem_of_mem_take hp
    have a1 := List.of_mem_zip hp
    have b1 := w3 _ a1.1
    have b2 := l2 _ a1.2
    omega)
  have hln : ((w.zip l).take i).length ≤ 24 := by simp; omega
  have b1 := w3 w[i] (List.getElem_mem _)
  have b2 := l2 (l[i]'(by omega)) (List.getElem_mem _)
  have h5 : 0 ≤ w[i] * l[i]'(by omega) := Int.mul_nonneg (by omega) b2.1
  have h6 : w[i] * l[i]'(by omega) ≤ 100000 * 23 := Int.mul_le_mul b1.2 b2.2 b2.1 (by omega)
  exact ⟨h1, h5, by omega, hle.1, by omega⟩
theorem costOf_den (w l : List Int) (hwl : w.length ≤ 1048576) (hll : l.length ≤ 1048576) : callω Try.prog cf 16 [.sl (rowsI w), .sl (rowsI l)] [] = some (.tup [.int .i64 (if okC w l = true then costS w l else 0), .bool (okC w l)], []) := by
  have h1 := areWeights_den w hwl
  rw [← okW] at h1
  have h2 := areLengths_den l hll
  have h3 := contains_den l hll 0
  cases hw : okW w with
  | false =>
    rw [hw] at h1
    have hc : okC w l = false := by simp [okC, hw]
    refine call_out Try.func16 rfl rfl rfl ?_; simp only [Try.f16]
    simp (maxSteps := 4000000) (disch := first | omega | (simp <;> omega) | fail) [h1, hc]
  | true =>
  cases hlk : okL l with
  | false =>
    rw [hw] at h1
    rw [hlk] at h2
    have hc : okC w l = false := by simp [okC, hlk]
    refine call_out Try.func16 rfl rfl rfl ?_; simp only [Try.f16]
    simp (maxSteps := 4000000) (disch := first | omega | (simp <;> omega) | fail) [h1, h2, hc]
  | true =>
  rw [hw] at h1
  rw [hlk] at h2
  by_cases he : l.length = w.length
  · cases hz : l.any (fun x => decide ((0 : Int) = x)) with
    | true =>
      rw [hz] at h3
      have hc : okC w l = false := by simp only [okC, hw, hlk, hz]; simp
      refine call_out Try.func16 rfl rfl rfl ?_; simp only [Try.f16]
      simp (maxSteps := 4000000) (disch := first | omega | (simp <;> omega) | fail) [h1, h2, h3, hc, he]
    | false =>
      rw [hz] at h3
      have hc : okC w l = true := by simp only [okC, hw, hlk, hz]; simp [he]
      refine call_out Try.func16 rfl rfl rfl ?_; simp only [Try.f16]
      simp (maxSteps := 4000000) (disch := first | omega | (simp <;> omega) | fail) [h1, h2, h3, hc, he]
      refine Out.mono (Out_iter (fun (i : Nat) env H => H = [] ∧ i ≤ w.length ∧ get env 1 = .sl (rowsI l) ∧ get env 28 = .sl (rowsI w) ∧ get env 29 = .int .i64 w.length ∧ get env 30 = .int .i64 i ∧ get env 6 = .int .i64 (((w.zip l).take i).foldl cst 0)) (fun i => w.length - i)
        (fun e env H => H = [] ∧ e = .exit 0 ∧ get env 6 = .int .i64 (costS w l)) ?_ 0 _ _ (by simp)) ?_
      · rintro i env H ⟨rfl, hi, g1, g28, g29, g30, g6⟩
        simp (maxSteps := 4000000) (disch := first | omega | (simp <;> omega) | fail) [g28, g29, g30]
        refine Out_if (fun hc => ?_) (fun hc => ?_)
        · have hlt : i < w.length := by simpa using hc
          obtain ⟨c1, c2, c3, c4, c5⟩ := cost_step hw hlk he i hlt
          simp (maxSteps := 4000000) (disch := first | omega | (simp <;> omega) | fail) [g1, g28, g29, g30, g6]
          exact ⟨i + 1, by omega, by omega, by omega, by rw [c1]⟩
        · have : i = w.length := by simp at hc; omega
          subst this
          have : (w.zip l).take w.length = w.zip l := List.take_of_length_le (by simp; omega)
          simp (maxSteps := 4000000) (disch := first | omega | (simp <;> omega) | fail) [g6, this, costS]
      · rintro e env H ⟨rfl, rfl, g6⟩
        simp (maxSteps := 4000000) (disch := first | omega | (simp <;> omega) | fail) [g6]
  · have hc : okC w l = false := by simp only [okC, hw, hlk]; simp [he]
    have he2 : ¬ ((l.length : Int) = w.length) := by omega
    refine call_out Try.func16 rfl rfl rfl ?_; simp only [Try.f16]
    simp (maxSteps := 4000000) (disch := first | omega | (simp <;> omega) | fail) [h1, h2, hc, he2]
theorem specCostOf_den (w l : List Int) (hwl : w.length ≤ 1048576) (hll : l.length ≤ 1048576) : callω Try.prog cf 18 [.sl (rowsI w), .sl (rowsI l)] [] = some (.tup [.int .i64 (if okC w l = true then costS w l else 0), .bool (okC w l)], []) := by
  have h1 := l15Weights_den w hwl
  rw [Bool.and_comm, ← okW] at h1
  have h2 := specLengths_den l hll
  cases hw : okW w with
  | false =>
    rw [hw] at h1
    have hc : okC w l = false := by simp [okC, hw]
    refine call_out Try.func18 rfl rfl rfl ?_; simp only [Try.f18]
    simp (maxSteps := 4000000) (disch := first | omega | (simp <;> omega) | fail) [h1, hc]
  | true =>
  cases hlk : okL l with
  | false =>
    rw [hw] at h1
    rw [hlk] at h2
    have hc : okC w l = false := by simp [okC, hlk]
    refine call_out Try.func18 rfl rfl rfl ?_; simp only [Try.f18]
    simp (maxSteps := 4000000) (disch := first | omega | (simp <;> omega) | fail) [h1, h2, hc]
  | true =>
  rw [hw] at h1
  rw [hlk] at h2
  by_cases he : l.length = w.length
  · refine call_out Try.func18 rfl rfl rfl ?_; simp only [Try.f18]
    simp (maxSteps := 4000000) (disch := first | omega | (simp <;> omega) | fail) [h1, h2, he]
    refine Out.mono (Out_iter (fun (i : Nat) env H => H = [] ∧ i ≤ w.length ∧ (∀ j (hj : j < l.length), j < i → ¬ 0 = l[j]) ∧ get env 1 = .sl (rowsI l) ∧ get env 24 = .sl (rowsI w) ∧ get env 25 = .int .i64 w.length ∧ get env 26 = .int .i64 i ∧ get env 6 = .int .i64 (((w.zip l).take i).foldl cst 0)) (fun i => w.length - i)
      (fun e env H => H = [] ∧ (((l.any fun x => decide ((0 : Int) = x)) = false ∧ e = .exit 0 ∧ get env 6 = .int .i64 (costS w l)) ∨ ((l.any fun x => decide ((0 : Int) = x)) = true ∧ e = .ret ∧ get env 4 = .int .i64 0 ∧ get env 5 = .bool false))) ?_ 0 _ _ (by simp)) ?_
    · rintro i env H ⟨rfl, hi, hno, g1, g24, g25, g26, g6⟩
      simp (maxSteps := 4000000) (disch := first | omega | (simp <;> omega) | fail) [g24, g25, g26]
      refine Out_if (fun hc => ?_) (fun hc => ?_)
      · have hlt : i < w.length := by simpa using hc
        obtain ⟨c1, c2, c3, c4, c5⟩ := cost_step hw hlk he i hlt
        simp (maxSteps := 4000000) (disch := first | omega | (simp <;> omega) | fail) [g1, g24, g25, g26]
        refine Out_if (fun hc2 => ?_) (fun hc2 => ?_)
        · have h0 : l[i] = 0 := by simpa using hc2
          simp (maxSteps := 4000000) (disch := first | omega | (simp <;> omega) | fail) [g1, g24, g25, g26]
          exact h0 ▸ List.getElem_mem _
        · have h0 : ¬ l[i] = 0 := by simpa using hc2
          simp (maxSteps := 4000000) (disch := first | omega | (simp <;> omega) | fail) [g1, g24, g25, g26, g6]
          exact ⟨i + 1, by omega, by omega, fun j hj hji => by
            by_cases e : j = i
            · subst e; omega
            · exact hno j hj (by omega), by omega, by rw [c1]⟩
      · have : i = w.length := by simp at hc; omega
        subst this
        have : (w.zip l).take w.length = w.zip l := List.take_of_length_le (by simp; omega)
        simp (maxSteps := 4000000) (disch := first | omega | (simp <;> omega) | fail) [g6, this, costS]
        intro x hm
        obtain ⟨j, hj, rfl⟩ := List.getElem_of_mem hm
        exact hno j hj (by omega)
    · rintro e env H ⟨rfl, ⟨hz, rfl, g6⟩ | ⟨hz, rfl, g4, g5⟩⟩
      · have hc : okC w l = true := by simp only [okC, hw, hlk, hz]; simp [he]
        simp (maxSteps := 4000000) (disch := first | omega | (simp <;> omega) | fail) [g6, hc]
      · have hc : okC w l = false := by simp only [okC, hw, hlk, hz]; simp
        simp (maxSteps := 4000000) (disch := first | omega | (simp <;> omega) | fail) [g4, g5, hc]
  · have hc : okC w l = false := by simp only [okC, hw, hlk]; simp [he]
    have he2 : ¬ ((l.length : Int) = w.length) := by omega
    refine call_out Try.func18 rfl rfl rfl ?_; simp only [Try.f18]
    simp (maxSteps := 4000000) (disch := first | omega | (simp <;> omega) | fail) [h1, h2, hc, he2]
theorem sameInts_den (a b : List Int) (hl : a.length ≤ 1048576) : callω Try.prog cf 14 [.sl (rowsI a), .sl (rowsI b)] [] = some (.bool (decide (a = b)), []) := by
  by_cases hab : a.length = b.length
  · refine call_out Try.func14 rfl rfl rfl ?_; simp only [Try.f14]
    simp (maxSteps := 4000000) (disch := first | omega | (simp <;> omega) | fail) [hab]
    refine Out.mono (Out_iter (fun (i : Nat) env H => H = [] ∧ i ≤ b.length ∧ a.take i = b.take i ∧ get env 0 = .sl (rowsI a) ∧ get env 1 = .sl (rowsI b) ∧ get env 12 = .int .i64 b.length ∧ get env 13 = .int .i64 i) (fun i => b.length - i)
      (fun e env H => H = [] ∧ ((a = b ∧ e = .exit 0) ∨ (a ≠ b ∧ e = .ret ∧ get env 4 = .bool false))) ?_ 0 _ _ (by simp)) ?_
    · rintro i env H ⟨rfl, hi, hno, g0, g1, g12, g13⟩
      simp (maxSteps := 4000000) (disch := first | omega | (simp <;> omega) | fail) [g12, g13]
      refine Out_if (fun hc => ?_) (fun hc => ?_)
      · have hlt : i < b.length := by simpa using hc
        simp (maxSteps := 4000000) (disch := first | omega | (simp <;> omega) | fail) [g0, g1, g12, g13]
        refine Out_draw pd14_6 ?_
        simp (maxSteps := 4000000) (disch := first | omega | (simp <;> omega) | fail) [g0, g1, g12, g13]
        refine Out_if (fun hc2 => ?_) (fun hc2 => ?_)
        · have h0 : ¬ a[i] = b[i] := by simpa using hc2
          simp (maxSteps := 4000000) (disch := first | omega | (simp <;> omega) | fail) [g0, g1, g12, g13]
          intro e
          subst e
          exact h0 rfl
        · have h0 : a[i] = b[i] := by simpa using hc2
          simp (maxSteps := 4000000) (disch := first | omega | (simp <;> omega) | fail) [g0, g1, g12, g13]
          exact ⟨i + 1, by omega, by omega, by rw [List.take_succ_eq_append_getElem (by omega), List.take_succ_eq_append_getElem hlt, hno, h0], by omega⟩
      · have : i = b.length := by simp at hc; omega
        subst this
        rw [List.take_of_length_le (by omega), List.take_of_length_le (by omega)] at hno
        simp (maxSteps := 4000000) (disch := first | omega | (simp <;> omega) | fail) [hno]
    · rintro e env H ⟨rfl, ⟨hz, rfl⟩ | ⟨hz, rfl, g4⟩⟩
      · simp (maxSteps := 4000000) (disch := first | omega | (simp <;> omega) | fail) [hz]
      · simp (maxSteps := 4000000) (disch := first | omega | (simp <;> omega) | fail) [hz, g4]
  · have hab2 : ¬ ((a.length : Int) = b.length) := by omega
    have hne : a ≠ b := fun e => hab (by rw [e])
    refine call_out Try.func14 rfl rfl rfl ?_; simp only [Try.f14]
    simp (maxSteps := 4000000) (disch := first | omega | (simp <;> omega) | fail) [hab2, hne]
def dcI (code w : List Int) (i : Nat) (env : Env) (H : Heap) : Prop := ∃ (l : List Int) (z : Blk) (G : Heap), l.length = i ∧ i ≤ w.length ∧ H = .vec 0 0 [] :: .vec 0 0 [] :: .vec 0 0 [] :: z :: .vec i (gv i) (rowsI l) :: G ∧ CurAt code (80 + 2 * i) z ∧ get env 4 = .ptr 3 0 ∧ get env 5 = .sl (rowsI w) ∧ get env 8 = .own 4 i 0 i ∧ get env 24 = .int .i64 w.length ∧ get env 25 = .int .i64 i
def dcQ (w : List Int) (e : X) (env : Env) (H : Heap) : Prop := e = .exit 0 ∧ ∃ (l : List Int) (z : Blk) (G : Heap), l.length = w.length ∧ H = .vec 0 0 [] :: .vec 0 0 [] :: .vec 0 0 [] :: z :: .vec l.length (gv l.length) (rowsI l) :: G ∧ get env 5 = .sl (rowsI w) ∧ get env 8 = .own 4 l.length 0 l.length
theorem drawCostOf_ex (code : List Int) (hc : Bytes code) : Ex (callω Try.prog cf 17 [.sl (rowsU code)] []) fun r h => h = [] ∧ ∃ a b : A, r = .tup [a, b] ∧ IsInts 25 a ∧ IsInts 25 b := by
  refine call_ex Try.func17 rfl rfl rfl ?_; simp only [Try.f17]
  simp (maxSteps := 4000000) (disch := first | omega | (simp <;> omega) | fail) []
  refine Out_ex (weights_ex code hc 3 _ 0 (by omega) _ rfl ⟨0, 0, rfl, by omega, by omega⟩) ?_
  rintro r h ⟨⟨w, rfl, hw⟩, y, rfl, hy⟩
  simp (maxSteps := 4000000) (disch := first | omega | (simp <;> omega) | fail) []
  refine Out_ex (one_ex code hc 2 (by omega) 3 _ 70 (by omega) _ rfl (hy.mono (by omega))) ?_
  rintro r h ⟨⟨u, rfl⟩, z, rfl, hz⟩
  simp (maxSteps := 4000000) (disch := first | omega | (simp <;> omega) | fail) []
  refine Out_if (fun hc1 => ?_) (fun hc1 => ?_)
  · cases hok : okW w with
    | true =>
      have h1 := specLengthsOf_den w (by omega) hok
      simp (maxSteps := 4000000) (disch := first | omega | (simp <;> omega) | fail) [h1]
      have hn := okW_in hok
      have hln := huff_len w (by omega) (fun x hx => by have := hn.2.2 x hx; omega)
      exact ⟨_, _, ⟨rfl, rfl⟩, ⟨w, rfl, hw⟩, ⟨huff w, by rw [List.take_of_length_le (by simp [hln])], by omega⟩⟩
    | false =>
      have h1 := specLengthsOf_no w (by omega) hok
      simp (maxSteps := 4000000) (disch := first | omega | (simp <;> omega) | fail) [h1]
      exact ⟨_, _, ⟨rfl, rfl⟩, ⟨w, rfl, hw⟩, ⟨[], rfl, by simp⟩⟩
  · simp (maxSteps := 4000000) (disch := first | omega | (simp <;> omega) | fail) []
    refine Out.mono (Out_iter (dcI code w) (fun i => w.length - i) (dcQ w) ?_ 0 _ _ ?_) ?_
    · rintro i env H ⟨l, z, G, rfl, hi, rfl, hz, g4, g5, g8, g24, g25⟩
      simp (maxSteps := 4000000) (disch := first | omega | (simp <;> omega) | fail) [g24, g25]
      refine Out_if (fun hc2 => ?_) (fun hc2 => ?_)
      · have hlt : l.length < w.length := by simpa using hc2
        have hap := fun v h => apK_push ⟨1, 8, false, none, some .i64, false, [], some [.int .i64 0]⟩ l.length (rowsI l) [.int .i64 v] 4 h (by simp) (by decide) (by decide) (by decide) (by simp) (by simp; omega)
        simp at hap
        have hrow : ∀ v, rowsI l ++ [[A.int .i64 v]] = rowsI (l ++ [v]) := fun v => by simp [rowsI]
        simp (maxSteps := 4000000) (disch := first | omega | (simp <;> omega) | fail) [g4, g5, g8, g24, g25]
        refine Out_ex (pick_ex code hc 7 (by omega) 3 _ (80 + 2 * l.length) (by omega) z rfl hz) ?_
        rintro r h ⟨⟨v, rfl, v0, v1⟩, y, rfl, hy⟩
        simp (maxSteps := 4000000) (disch := first | omega | (simp <;> omega) | fail) [g4, g5, g8, g24, g25, hap, hrow]
        exact ⟨l.length + 1, by omega, l ++ [1 + v], y, _, by simp, by omega, by simp; rfl, hy.mono (by simp; omega), by simp [g4], by simp [g5], by simp, by simp [g24], by simp⟩
      · have : l.length = w.length := by simp at hc2; omega
        simp (maxSteps := 4000000) (disch := first | omega | (simp <;> omega) | fail) [g5, g8]
        exact ⟨rfl, l, z, G, this, rfl, by simp [g5], by simp [g8]⟩
    · exact ⟨[], z, [], rfl, by omega, rfl, hz.mono (by simp), by simp, by simp, by simp, by simp, by simp⟩
    · rintro e env H ⟨rfl, l, z, G, hl, rfl, g5, g8⟩
      simp (maxSteps := 4000000) (disch := first | omega | (simp <;> omega) | fail) [g5, g8]
      exact ⟨_, _, ⟨rfl, rfl⟩, ⟨w, rfl, hw⟩, ⟨l, by rw [List.take_of_length_le (by simp)], by omega⟩⟩
end Go.Proofs.Ytckjogpdnkocbaa.Den
namespace Go.Proofs.Ytckjogpdnkocbaa.Den
/-! No lengths cost less than Huffman's. -/
/-- A weight and the length of its code. -/
abbrev WL := Int × Nat
def kS : List WL → Nat
  | [] => 0
  | p :: l => 2 ^ (23 - p.2) + kS l
def cS : List WL → Int
  | [] => 0
  | p :: l => p.1 * p.2 + cS l
theorem kS_perm {P Q : List WL} (h : P.Perm Q) : kS P = kS Q := by
  induction h with
  | nil => rfl
  | cons x _ ih => simp only [kS, ih]
  | swap x y l => simp only [kS]; omega
  | trans _ _ h1 h2 => rw [h1, h2]
theorem cS_perm {P Q : List WL} (h : P.Perm Q) : cS P = cS Q := by
  induction h with
  | nil => rfl
  | cons x _ ih => simp only [cS, ih]
  | swap x y l => simp only [cS]; omega
  | trans _ _ h1 h2 => rw [h1, h2]
theorem max_ex : ∀ P : List WL, P ≠ [] → ∃ p Q, P.Perm (p :: Q) ∧ ∀ q, q ∈ Q → q.2 ≤ p.2
  | [], h => absurd rfl h
  | [x], _ => ⟨x, [], .refl _, by simp⟩
  | x :: y :: P, _ => by
    obtain ⟨p, Q, hp, hq⟩ := max_ex (y :: P) (by simp)
    by_cases hx : x.2 ≤ p.2
    · refine ⟨p, x :: Q, (hp.cons x).trans (List.Perm.swap p x Q), ?_⟩
      intro q hq2
      rcases List.mem_cons.1 hq2 with e | e
      · exact e ▸ hx
      · exact hq q e
    · refine ⟨x, y :: P, .refl _, ?_⟩
      intro q hq2
      rcases List.mem_cons.1 (hp.mem_iff.1 hq2) with e | e
      · subst e; omega
      · have := hq q e; omega
theorem mem_perm {α : Type} {x : α} {l : List α} (h : x ∈ l) : ∃ r, l.Perm (x :: r) := by
  obtain ⟨s, t, rfl⟩ := List.append_of_mem h
  exact ⟨s ++ t, List.perm_middle⟩
/-- The least weight may be given the greatest length. -/
theorem pull (P : List WL) (m : Int) (R : List Int) (h : (P.map Prod.fst).Perm (m :: R)) (hm : ∀ r, r ∈ R → m ≤ r) :
    ∃ (d : Nat) (Q : List WL), (Q.map Prod.fst).Perm R ∧ (∀ q, q ∈ Q → q.2 ≤ d) ∧ (∃ p, p ∈ P ∧ p.2 = d) ∧ (∀ q, q ∈ Q → ∃ p, p ∈ P ∧ p.2 = q.2) ∧ kS ((m, d) :: Q) = kS P ∧ cS ((m, d) :: Q) ≤ cS P := by
  have hne : P ≠ [] := by
    intro e; subst e
    have := h.length_eq; simp at this
  obtain ⟨p, Q0, hp, hq⟩ := max_ex P hne
  have hpm := (hp.map Prod.fst).symm.trans h
  simp only [List.map_cons] at hpm
  have hsub : ∀ q, q ∈ p :: Q0 → q ∈ P := fun q hq => hp.mem_iff.2 hq
  by_cases hpe : p.1 = m
  · rw [hpe] at hpm
    refine ⟨p.2, Q0, hpm.cons_inv, hq, ⟨p, hsub p (List.mem_cons_self ..), rfl⟩, fun q hq2 => ⟨q, hsub q (List.mem_cons_of_mem _ hq2), rfl⟩, ?_, ?_⟩
    · rw [kS_perm hp]; rfl
    · rw [cS_perm hp, ← hpe]; exact Int.le_refl _
  · have hmem : m ∈ Q0.map Prod.fst := by
      have : m ∈ p.1 :: Q0.map Prod.fst := hpm.mem_iff.2 (List.mem_cons_self ..)
      rcases List.mem_cons.1 this with e | e
      · exact absurd e.symm hpe
      · exact e
    obtain ⟨q, hqm, hq1⟩ := List.mem_map.1 hmem
    obtain ⟨Q1, hQ1⟩ := mem_perm hqm
    have h2 := (hQ1.map Prod.fst)
    simp only [List.map_cons, hq1] at h2
    have h3 : (m :: p.1 :: Q1.map Prod.fst).Perm (m :: R) := (List.Perm.swap p.1 m _).trans ((h2.symm.cons p.1).trans hpm)
    have hpR := h3.cons_inv
    have hmp : m ≤ p.1 := hm _ (hpR.mem_iff.1 (List.mem_cons_self ..))
    have hqp : q.2 ≤ p.2 := hq q hqm
    have hall : P.Perm (p :: q :: Q1) := hp.trans (hQ1.cons p)
    refine ⟨p.2, (p.1, q.2) :: Q1, hpR, ?_, ⟨p, hsub p (List.mem_cons_self ..), rfl⟩, ?_, ?_, ?_⟩
    · intro x hx
      rcases List.mem_cons.1 hx with e | e
      · subst e; exact hqp
      · exact hq x (hQ1.mem_iff.2 (List.mem_cons_of_mem _ e))
    · intro x hx
      rcases List.mem_cons.1 hx with e | e
      · subst e; exact ⟨q, hall.mem_iff.2 (by simp), rfl⟩
      · exact ⟨x, hall.mem_iff.2 (by simp [e]), rfl⟩
    · rw [kS_perm hall]; simp only [kS]
    · rw [cS_perm hall]
      simp only [cS, hq1]
      have : 0 ≤ (p.1 - m) * ((p.2 : Int) - q.2) := Int.mul_nonneg (by omega) (by omega)
      have e : (p.1 - m) * ((p.2 : Int) - q.2) = p.1 * p.2 - p.1 * q.2 - (m * p.2 - m * q.2) := by
        rw [Int.sub_mul, Int.mul_sub, Int.mul_sub]
      omega
theorem kS_dvd (d : Nat) : ∀ S : List WL, (∀ q, q ∈ S → q.2 ≤ d) → 2 ^ (23 - d) ∣ kS S
  | [], _ => ⟨0, rfl⟩
  | q :: S, h => by
    have h1 := h q (List.mem_cons_self ..)
    exact Nat.dvd_add (Nat.pow_dvd_pow 2 (by omega)) (kS_dvd d S fun x hx => h x (List.mem_cons_of_mem _ hx))
/-- The two least weights may be put together. -/
theorem merge (P : List WL) (m1 m2 : Int) (R : List Int) (h : (P.map Prod.fst).Perm (m1 :: m2 :: R)) (h1 : ∀ r, r ∈ m2 :: R → m1 ≤ r) (h2 : ∀ r, r ∈ R → m2 ≤ r) (h0 : 0 ≤ m1) (hk : kS P ≤ 2 ^ 23) (hd : ∀ p, p ∈ P → p.2 ≤ 23) :
    ∃ P' : List WL, (P'.map Prod.fst).Perm ((m1 + m2) :: R) ∧ kS P' ≤ 2 ^ 23 ∧ (∀ p, p ∈ P' → p.2 ≤ 23) ∧ cS P' + m1 + m2 ≤ cS P := by
  obtain ⟨d1, Q, hQ, hq1, ⟨p1, hp1, e1⟩, hq2, hk1, hc1⟩ := pull P m1 (m2 :: R) h h1
  obtain ⟨d2, S, hS, hs1, ⟨p2, hp2, e2⟩, hs2, hk2, hc2⟩ := pull Q m2 R hQ h2
  have hd1 : d1 ≤ 23 := e1 ▸ hd p1 hp1
  have hd21 : d2 ≤ d1 := e2 ▸ hq1 p2 hp2
  have hkk : 2 ^ (23 - d1) + (2 ^ (23 - d2) + kS S) ≤ 2 ^ 23 := by
    have : kS ((m1, d1) :: Q) ≤ 2 ^ 23 := hk1 ▸ hk
    simp only [kS] at this hk2
    omega
  obtain ⟨c, hc⟩ := kS_dvd d2 S hs1
  have hu : 2 ^ (23 - d2) * 2 ^ d2 = 2 ^ 23 := by rw [← Nat.pow_add]; congr 1; omega
  have hpos : 0 < 2 ^ (23 - d1) := Nat.pow_pos (by omega)
  have hupos : 0 < 2 ^ (23 - d2) := Nat.pow_pos (by omega)
  have hlt : 2 ^ (23 - d2) * (1 + c) < 2 ^ (23 - d2) * 2 ^ d2 := by rw [Nat.mul_add, Nat.mul_one, ← hc, hu]; omega
  have hlt2 : 1 + c < 2 ^ d2 := Nat.lt_of_mul_lt_mul_left hlt
  have hle : 2 ^ (23 - d2) * (2 + c) ≤ 2 ^ 23 := by rw [← hu]; exact Nat.mul_le_mul_left _ (by omega)
  have hd2pos : 1 ≤ d2 := by
    rcases Nat.eq_zero_or_pos d2 with e | e
    · subst e; simp at hlt2
    · exact e
  have hpw : 2 ^ (23 - (d2 - 1)) = 2 ^ (23 - d2) * 2 := by
    rw [show 23 - (d2 - 1) = (23 - d2) + 1 by omega, Nat.pow_succ]
  refine ⟨(m1 + m2, d2 - 1) :: S, hS.cons _, ?_, ?_, ?_⟩
  · simp only [kS, hpw, hc]
    rw [Nat.mul_add] at hle
    exact hle
  · intro x hx
    rcases List.mem_cons.1 hx with e | e
    · subst e; simp only []; omega
    · have := hs1 x e; omega
  · simp only [cS] at hc1 hc2 ⊢
    have e3 : (m1 + m2) * ((d2 - 1 : Nat) : Int) = m1 * d2 + m2 * d2 - m1 - m2 := by
      rw [show ((d2 - 1 : Nat) : Int) = (d2 : Int) - 1 by omega, Int.mul_sub, Int.add_mul, Int.mul_one]; omega
    have e4 : m1 * (d2 : Int) ≤ m1 * (d1 : Int) := Int.mul_le_mul_of_nonneg_left (by omega) h0
    rw [e3]; omega

theorem lgts_min (l : List Tree) : ∀ n k, k < n → (l.getD (lgts l n) default).1 ≤ (l.getD k default).1
  | 0, k, h => by omega
  | n + 1, k, h => by
    simp only [lgts, lgt]
    by_cases hk : k = n
    · subst hk
      split <;> omega
    · have := lgts_min l n k (by omega)
      split <;> omega
theorem fst_min (l : List Tree) : ∀ x, x ∈ l → (fstT l).1 ≤ x.1 := by
  intro x hx
  obtain ⟨k, hk, rfl⟩ := List.getElem_of_mem hx
  have := lgts_min l l.length k hk
  simpa [fstT, bst, hk] using this
/-- Weights times lengths. -/
def dot : List Int → List Int → Int
  | w :: ws, o :: os => w * o + dot ws os
  | _, _ => 0
theorem dot_bump1 : ∀ (w o : List Int) (i : Nat), i < w.length → i < o.length → dot w (o.modify i (· + 1)) = dot w o + w.getD i 0
  | [], _, i, h, _ => by simp at h
  | _ :: _, [], i, _, h => by simp at h
  | a :: w, b :: o, 0, _, _ => by simp [dot, Int.mul_add]; omega
  | a :: w, b :: o, i + 1, h1, h2 => by
    have := dot_bump1 w o i (by simpa using h1) (by simpa using h2)
    simp only [List.modify_succ_cons, dot, this, List.getD_cons_succ]; omega
def wsum (w : List Int) : List Int → Int
  | [] => 0
  | i :: is => w.getD i.toNat 0 + wsum w is
theorem wsum_app (w a b : List Int) : wsum w (a ++ b) = wsum w a + wsum w b := by
  induction a with
  | nil => simp [wsum]
  | cons x a ih => simp only [List.cons_append, wsum, ih]; omega
theorem dot_bump (w : List Int) : ∀ (is o : List Int), o.length = w.length → (∀ i, i ∈ is → 0 ≤ i ∧ i < w.length) → dot w (bump o is) = dot w o + wsum w is
  | [], o, _, _ => by simp [bump, wsum]
  | i :: is, o, ho, h => by
    have hi := h i (List.mem_cons_self ..)
    show dot w (bump (bump1 o i) is) = _
    rw [dot_bump w is (bump1 o i) (by rw [bump1_len, ho]) (fun j hj => h j (List.mem_cons_of_mem _ hj)), bump1, dot_bump1 w o i.toNat (by omega) (by omega)]
    simp only [wsum]; omega
/-- Each tree weighs what its symbols weigh. -/
def Wgt (w : List Int) (s : HS) : Prop := ∀ x, x ∈ s.1 → x.1 = wsum w x.2
theorem Wgt.step {w : List Int} {s : HS} (hw : Wgt w s) (h : 1 < s.1.length) : Wgt w (stepT s) := by
  have hp := two_perm s.1 h
  intro x hx
  rcases List.mem_append.1 hx with hx | hx
  · exact hw x (hp.mem_iff.1 (by simp [hx]))
  · rw [List.mem_singleton] at hx; subst hx
    simp only [both, wsum_app]
    rw [hw _ (hp.mem_iff.1 (List.mem_cons_self ..)), hw _ (hp.mem_iff.1 (List.mem_cons_of_mem _ (List.mem_cons_self ..)))]
theorem dot_step {w : List Int} {s : HS} (hg : GoodT w.length s) (hw : Wgt w s) (h : 1 < s.1.length) : dot w (stepT s).2 = dot w s.2 + (both s.1).1 := by
  obtain ⟨h1, h2, h3, h4, h5, h6⟩ := hg.bothOk h
  have hp := two_perm s.1 h
  have e : (both s.1).1 = wsum w (both s.1).2 := by
    simp only [both, wsum_app]
    rw [hw _ (hp.mem_iff.1 (List.mem_cons_self ..)), hw _ (hp.mem_iff.1 (List.mem_cons_of_mem _ (List.mem_cons_self ..)))]
  rw [e]
  exact dot_bump w _ _ hg.len (fun i hi => ⟨(h6 i hi).1, (h6 i hi).2.1⟩)
theorem opt {w : List Int} : ∀ (n : Nat) (s : HS), s.1.length = n + 1 → GoodT w.length s → Wgt w s → ∀ P : List WL, (P.map Prod.fst).Perm (s.1.map Prod.fst) → kS P ≤ 2 ^ 23 → (∀ p, p ∈ P → p.2 ≤ 23) → dot w (endT s).2 ≤ dot w s.2 + cS P
  | 0, s, hn, hg, hw, P, hP, hk, hd => by
    rw [endT_one s (by omega)]
    have hl := hP.length_eq
    simp only [List.length_map] at hl
    match P, hl.trans hn with
    | [p], _ =>
      match hs : s.1, hn with
      | [x], _ =>
        rw [hs] at hP
        have h1 : p.1 = x.1 := by simpa using hP.mem_iff (a := p.1)
        have h2 := (hg.tree x (by rw [hs]; exact List.mem_singleton.2 rfl)).2.1
        have h3 : 0 ≤ p.1 * (p.2 : Int) := Int.mul_nonneg (by omega) (by omega)
        simp only [cS]; omega
  | n + 1, s, hn, hg, hw, P, hP, hk, hd => by
    have h : 1 < s.1.length := by omega
    rw [endT_step s h]
    have hp := two_perm s.1 h
    have hr0 := rest_len s.1 (by omega)
    have hpm := (hp.map Prod.fst).symm
    simp only [List.map_cons] at hpm
    have hp1 := rest_perm s.1 (by omega)
    have hp2 := rest_perm (rest s.1) (by omega)
    have hfa := fst_min s.1
    have hfb := fst_min (rest s.1)
    obtain ⟨P', q1, q2, q3, q4⟩ := merge P (fstT s.1).1 (fstT (rest s.1)).1 ((rest (rest s.1)).map Prod.fst) (hP.trans hpm) (by
        intro r hr
        rcases List.mem_cons.1 hr with e | e
        · rw [e]; exact hfa _ (hp.mem_iff.1 (by simp))
        · obtain ⟨x, hx, rfl⟩ := List.mem_map.1 e
          exact hfa x (hp.mem_iff.1 (by simp [hx]))) (by
        intro r hr
        obtain ⟨x, hx, rfl⟩ := List.mem_map.1 hr
        exact hfb x (hp2.mem_iff.1 (by simp [hx]))) (hg.tree _ (hp.mem_iff.1 (List.mem_cons_self ..))).2.1 hk hd
    have ih := opt n (stepT s) (by rw [stepT_len s h]; omega) (hg.step h) (hw.step h) P' (by
      refine q1.trans ?_
      simp only [stepT, List.map_append, List.map_cons, List.map_nil, both]
      exact (List.perm_append_comm (l₁ := [(fstT s.1).1 + (fstT (rest s.1)).1]))) q2 q3
    rw [dot_step hg hw h] at ih
    simp only [both] at ih
    omega
theorem wgt0 (w : List Int) : Wgt w (huff0 w) := by
  intro x hx
  simp only [huff0, initT, List.mem_map, List.mem_range] at hx
  obtain ⟨j, hj, rfl⟩ := hx
  simp [wsum]
theorem init_fst (w : List Int) : (initT w w.length).map Prod.fst = w := by
  apply List.ext_getElem
  · simp [initT]
  · intro n h1 h2
    simp [initT, List.getD_eq_getElem?_getD, h2]
theorem dot_zero : ∀ (w : List Int) (n : Nat), dot w (List.replicate n 0) = 0
  | [], n => by simp [dot]
  | _ :: _, 0 => by simp [dot]
  | a :: w, n + 1 => by simp [List.replicate_succ, dot, dot_zero w n]
/-- **No lengths cost less.** -/
theorem huff_opt (w : List Int) (h0 : 0 < w.length) (hw : ∀ x, x ∈ w → 0 ≤ x ∧ x ≤ 100000) (P : List WL) (hP : P.map Prod.fst = w) (hk : kS P ≤ 2 ^ 23) (hd : ∀ p, p ∈ P → p.2 ≤ 23) : dot w (huff w) ≤ cS P := by
  obtain ⟨n, hn⟩ : ∃ n, w.length = n + 1 := ⟨w.length - 1, by omega⟩
  have := opt n (huff0 w) (by simp [huff0, initT_len, hn]) (good0 w hw) (wgt0 w) P (by simp only [huff0, init_fst, hP]; exact .refl _) hk hd
  have e : dot w (huff0 w).2 = 0 := dot_zero w _
  rw [e] at this
  simpa [huff] using this

/-- The room of some symbols. -/
def ksum (o : List Int) : List Int → Nat
  | [] => 0
  | i :: is => 2 ^ (23 - (o.getD i.toNat 0).toNat) + ksum o is
theorem ksum_app (o a b : List Int) : ksum o (a ++ b) = ksum o a + ksum o b := by
  induction a with
  | nil => simp [ksum]
  | cons x a ih => simp only [List.cons_append, ksum, ih]; omega
theorem ksum_perm (o : List Int) {a b : List Int} (h : a.Perm b) : ksum o a = ksum o b := by
  induction h with
  | nil => rfl
  | cons x _ ih => simp only [ksum, ih]
  | swap x y l => simp only [ksum]; omega
  | trans _ _ h1 h2 => rw [h1, h2]
theorem ksum_congr (o o' : List Int) : ∀ is : List Int, (∀ i, i ∈ is → o'.getD i.toNat 0 = o.getD i.toNat 0) → ksum o' is = ksum o is
  | [], _ => rfl
  | i :: is, h => by
    simp only [ksum]
    rw [h i (List.mem_cons_self ..), ksum_congr o o' is fun j hj => h j (List.mem_cons_of_mem _ hj)]
theorem ksum_half (o o' : List Int) : ∀ is : List Int, (∀ i, i ∈ is → o'.getD i.toNat 0 = o.getD i.toNat 0 + 1 ∧ 0 ≤ o.getD i.toNat 0 ∧ o.getD i.toNat 0 + 1 ≤ 23) → 2 * ksum o' is = ksum o is
  | [], _ => rfl
  | i :: is, h => by
    obtain ⟨h1, h2, h3⟩ := h i (List.mem_cons_self ..)
    have ih := ksum_half o o' is fun j hj => h j (List.mem_cons_of_mem _ hj)
    simp only [ksum]
    rw [h1, show 23 - (o.getD i.toNat 0).toNat = (23 - (o.getD i.toNat 0 + 1).toNat) + 1 by omega, Nat.pow_succ]
    omega
def Kr (s : HS) : Prop := ∀ x, x ∈ s.1 → ksum s.2 x.2 = 2 ^ 23
theorem Kr.step {N : Nat} {s : HS} (hN : N ≤ 24) (hg : GoodT N s) (hk : Kr s) (h : 1 < s.1.length) : Kr (stepT s) := by
  have hp := two_perm s.1 h
  obtain ⟨h1, h2, h3, h4, h5, h6⟩ := hg.bothOk h
  have hma : fstT s.1 ∈ s.1 := hp.mem_iff.1 (List.mem_cons_self ..)
  have hmb : fstT (rest s.1) ∈ s.1 := hp.mem_iff.1 (List.mem_cons_of_mem _ (List.mem_cons_self ..))
  have ha0 := List.length_pos_iff.2 (hg.tree _ hma).1
  have hb0 := List.length_pos_iff.2 (hg.tree _ hmb).1
  have hnn : ∀ i, i ∈ (both s.1).2 → 0 ≤ i := fun i hi => (h6 i hi).1
  have hget : ∀ i : Int, 0 ≤ i → i < N → (bump s.2 (both s.1).2).getD i.toNat 0 = s.2.getD i.toNat 0 + if i ∈ (both s.1).2 then 1 else 0 := by
    intro i k1 k2
    have := bump_get (both s.1).2 s.2 i.toNat (by rw [hg.len]; omega) hnn h1
    rwa [Int.toNat_of_nonneg k1] at this
  have hlen : (both s.1).2.length = (fstT s.1).2.length + (fstT (rest s.1)).2.length := by simp [both]
  intro x hx
  rcases List.mem_append.1 hx with hx | hx
  · have hxs : x ∈ s.1 := hp.mem_iff.1 (by simp [hx])
    simp only [stepT]
    rw [← hk x hxs]
    apply ksum_congr
    intro i hi
    obtain ⟨k1, k2, _, _⟩ := hg.sym x hxs i hi
    have hpf := (hp.map (·.2)).flatten
    simp only [List.map_cons, List.flatten_cons] at hpf
    have hnd := hpf.nodup_iff.2 hg.nodup
    rw [← List.append_assoc] at hnd
    have hdis := (List.nodup_append.1 hnd).2.2
    have hni : i ∉ (both s.1).2 := fun hc => hdis i hc i (by simp only [List.mem_flatten, List.mem_map]; exact ⟨x.2, ⟨x, hx, rfl⟩, hi⟩) rfl
    rw [hget i k1 k2, if_neg hni]
    omega
  · rw [List.mem_singleton] at hx; subst hx
    simp only [stepT]
    have e1 := hk _ hma
    have e2 := hk _ hmb
    have g1 := ksum_half s.2 (bump s.2 (both s.1).2) (fstT s.1).2 (fun i hi => by
      obtain ⟨k1, k2, k3, k4⟩ := hg.sym _ hma i hi
      have hin : i ∈ (both s.1).2 := List.mem_append_left _ hi
      rw [hget i k1 k2, if_pos hin]
      exact ⟨rfl, k3, by omega⟩)
    have g2 := ksum_half s.2 (bump s.2 (both s.1).2) (fstT (rest s.1)).2 (fun i hi => by
      obtain ⟨k1, k2, k3, k4⟩ := hg.sym _ hmb i hi
      have hin : i ∈ (both s.1).2 := List.mem_append_right _ hi
      rw [hget i k1 k2, if_pos hin]
      exact ⟨rfl, k3, by omega⟩)
    have : ksum (bump s.2 (both s.1).2) (both s.1).2 = ksum (bump s.2 (both s.1).2) (fstT s.1).2 + ksum (bump s.2 (both s.1).2) (fstT (rest s.1)).2 := ksum_app _ _ _
    rw [this]
    omega
theorem endT_kr {N : Nat} (hN : N ≤ 24) : ∀ (n : Nat) (s : HS), s.1.length = n + 1 → GoodT N s → Kr s → Kr (endT s)
  | 0, s, hn, hg, hk => by rw [endT_one s (by omega)]; exact hk
  | n + 1, s, hn, hg, hk => by
    rw [endT_step s (by omega)]
    exact endT_kr hN n (stepT s) (by rw [stepT_len s (by omega)]; omega) (hg.step (by omega)) (hk.step hN hg (by omega))
theorem kr0 (w : List Int) : Kr (huff0 w) := by
  intro x hx
  simp only [huff0, initT, List.mem_map, List.mem_range] at hx
  obtain ⟨j, hj, rfl⟩ := hx
  simp [ksum, huff0, hj]
def ks : List Int → Nat
  | [] => 0
  | x :: o => 2 ^ (23 - x.toNat) + ks o
theorem ksum_range (o : List Int) : ∀ (n : Nat), n ≤ o.length → ksum o ((List.range n).map fun (j : Nat) => (j : Int)) = ks (o.take n)
  | 0, _ => by simp [ksum, ks]
  | n + 1, h => by
    rw [List.range_succ, List.map_append, ksum_app, ksum_range o n (by omega), List.take_succ_eq_append_getElem (by omega)]
    have ks_app : ∀ a b : List Int, ks (a ++ b) = ks a + ks b := by
      intro a b
      induction a with
      | nil => simp [ks]
      | cons x a ih => simp only [List.cons_append, ks, ih]; omega
    rw [ks_app]
    simp [ksum, ks, List.getD_eq_getElem?_getD, List.getElem?_eq_getElem (show n < o.length by omega)]
theorem huff_ks (w : List Int) (h0 : 0 < w.length) (h24 : w.length ≤ 24) (hw : ∀ x, x ∈ w → 0 ≤ x ∧ x ≤ 100000) : ks (huff w) = 2 ^ 23 := by
  obtain ⟨n, hn⟩ : ∃ n, w.length = n + 1 := ⟨w.length - 1, by omega⟩
  have h1 : (huff0 w).1.length = n + 1 := by simp [huff0, initT_len, hn]
  obtain ⟨hg, he⟩ := endT_good n (huff0 w) h1 (good0 w hw)
  have hk := endT_kr h24 n (huff0 w) h1 (good0 w hw) (kr0 w)
  have hlen := huff_len w h0 hw
  match hs : (endT (huff0 w)).1, he with
  | [x], _ =>
    have hx : x ∈ (endT (huff0 w)).1 := by rw [hs]; exact List.mem_singleton.2 rfl
    have e := hk x hx
    have hnd := hg.nodup
    have hal := hg.all
    rw [hs] at hnd hal
    simp at hnd hal
    have hnd2 : ((List.range w.length).map fun (j : Nat) => (j : Int)).Nodup := by
      refine List.nodup_iff_pairwise_ne.2 ?_
      rw [List.pairwise_map]
      exact List.nodup_range.imp fun h => by omega
    have hpm : x.2.Perm ((List.range w.length).map fun (j : Nat) => (j : Int)) := by
      rw [List.perm_ext_iff_of_nodup hnd hnd2]
      intro a
      simp only [List.mem_map, List.mem_range]
      constructor
      · intro ha
        obtain ⟨k1, k2, _, _⟩ := hg.sym x hx a ha
        exact ⟨a.toNat, by omega, by omega⟩
      · rintro ⟨j, hj, rfl⟩
        obtain ⟨y, hy, hjy⟩ := hg.cov j hj
        rw [hs, List.mem_singleton] at hy
        subst hy; exact hjy
    rw [ksum_perm _ hpm, ksum_range _ _ (by rw [hg.len]; omega)] at e
    have : (endT (huff0 w)).2.take w.length = huff w := List.take_of_length_le (by rw [hg.len]; omega)
    rwa [this] at e
theorem ks_pos : ∀ o : List Int, 0 < o.length → 0 < ks o
  | [], h => by simp at h
  | x :: o, _ => by
    have : 0 < 2 ^ (23 - x.toNat) := Nat.pow_pos (by omega)
    simp only [ks]; omega
theorem ks_mem : ∀ (o : List Int) (x : Int), x ∈ o → 2 ≤ o.length → 2 ^ (23 - x.toNat) < ks o
  | [], x, hx, _ => by simp at hx
  | y :: o, x, hx, h => by
    have h1 : 0 < ks o := ks_pos o (by simp at h; omega)
    rcases List.mem_cons.1 hx with e | e
    · subst e; simp only [ks]; omega
    · have h2 : 0 < 2 ^ (23 - y.toNat) := Nat.pow_pos (by omega)
      match o, e, h1 with
      | [z], e, _ =>
        rw [List.mem_singleton] at e; subst e
        simp only [ks]; omega
      | z :: z' :: o, e, _ =>
        have := ks_mem (z :: z' :: o) x e (by simp)
        simp only [ks] at this ⊢; omega
theorem huff_pos (w : List Int) (h2 : 2 ≤ w.length) (h24 : w.length ≤ 24) (hw : ∀ x, x ∈ w → 0 ≤ x ∧ x ≤ 100000) : ∀ x, x ∈ huff w → 1 ≤ x := by
  intro x hx
  have h1 := huff_le w (by omega) hw x hx
  have hl := huff_len w (by omega) hw
  have hk := huff_ks w (by omega) h24 hw
  have := ks_mem (huff w) x hx (by omega)
  rw [hk] at this
  rcases Int.lt_or_le x 1 with e | e
  · have : x = 0 := by omega
    subst this
    simp at this
  · exact e
/-- Lengths as pairs. -/
def prs (w l : List Int) : List WL := w.zip (l.map Int.toNat)
theorem prs_fst : ∀ (w l : List Int), l.length = w.length → (prs w l).map Prod.fst = w
  | [], _, _ => by simp [prs]
  | _ :: _, [], h => by simp at h
  | a :: w, b :: l, h => by
    have := prs_fst w l (by simpa using h)
    simpa [prs] using this
theorem prs_kS : ∀ (w l : List Int), l.length = w.length → kS (prs w l) = ks l
  | [], [], _ => rfl
  | [], _ :: _, h => by simp at h
  | _ :: _, [], h => by simp at h
  | a :: w, b :: l, h => by
    have := prs_kS w l (by simpa using h)
    simp only [prs, List.map_cons, List.zip_cons_cons, kS, ks] at this ⊢
    rw [this]
theorem prs_cS : ∀ (w l : List Int), (∀ x, x ∈ l → 0 ≤ x) → cS (prs w l) = dot w l
  | [], _, _ => by simp [prs, cS, dot]
  | _ :: _, [], _ => by simp [prs, cS, dot]
  | a :: w, b :: l, h => by
    have ih := prs_cS w l fun x hx => h x (List.mem_cons_of_mem _ hx)
    have hb := h b (List.mem_cons_self ..)
    simp only [prs, List.map_cons, List.zip_cons_cons, cS, dot] at ih ⊢
    rw [ih, Int.toNat_of_nonneg hb]
end Go.Proofs.Ytckjogpdnkocbaa.Den
namespace Go.Proofs.Ytckjogpdnkocbaa.Den
open Go.Proofs
set_option maxHeartbeats 2000000
set_option maxRecDepth 20000
theorem kraftS_ks : ∀ (l : List Int) (a : Int), (∀ x, x ∈ l → 1 ≤ x ∧ x ≤ 23) → l.foldl (fun a n => a + krf n) a = a + (ks l : Nat)
  | [], a, _ => by simp [ks]
  | x :: l, a, h => by
    obtain ⟨h1, h2⟩ := h x (List.mem_cons_self ..)
    rw [List.foldl_cons, kraftS_ks l _ fun y hy => h y (List.mem_cons_of_mem _ hy)]
    have : krf x = ((2 ^ (23 - x.toNat) : Nat) : Int) := by
      unfold krf
      rw [if_pos (by omega), show (23 - x).toNat = 23 - x.toNat by omega]
      simp
    rw [this]
    simp only [ks]
    omega
theorem cst_dot : ∀ (w l : List Int) (a : Int), (w.zip l).foldl cst a = a + dot w l
  | [], _, a => by simp [dot]
  | _ :: _, [], a => by simp [dot]
  | x :: w, y :: l, a => by
    rw [List.zip_cons_cons, List.foldl_cons, cst_dot w l]
    simp only [cst, dot]; omega
theorem okW_le {w : List Int} (h : okW w = true) : ∀ x, x ∈ w → 0 ≤ x ∧ x ≤ 100000 := fun x hx => by
  have := (okW_in h).2.2 x hx; omega
theorem huff_in {w : List Int} (h : okW w = true) : (huff w).length = w.length ∧ ∀ x, x ∈ huff w → 1 ≤ x ∧ x ≤ 23 := by
  obtain ⟨h1, h2, _⟩ := okW_in h
  refine ⟨huff_len w (by omega) (okW_le h), fun x hx => ?_⟩
  have a := huff_pos w h1 h2 (okW_le h) x hx
  have b := huff_le w (by omega) (okW_le h) x hx
  omega
theorem okL_of {l : List Int} (h1 : 1 ≤ l.length) (h2 : l.length ≤ 24) (h : ∀ x, x ∈ l → 1 ≤ x ∧ x ≤ 23) : okL l = true := by
  simp only [okL, inR, Bool.and_eq_true, decide_eq_true_eq, List.all_eq_true]
  exact ⟨⟨by omega, by omega⟩, fun x hx => by have := h x hx; omega⟩
theorem okC_of {w l : List Int} (hw : okW w = true) (hl : l.length = w.length) (h : ∀ x, x ∈ l → 1 ≤ x ∧ x ≤ 23) : okC w l = true := by
  obtain ⟨h1, h2, _⟩ := okW_in hw
  have h3 := okL_of (l := l) (by omega) (by omega) h
  simp only [okC, hw, h3, hl, decide_true, Bool.and_self, Bool.true_and, Bool.not_eq_true', List.any_eq_false, decide_eq_true_eq]
  intro x hx e
  have := h x hx; omega
theorem huff_kraft {w : List Int} (h : okW w = true) : kraftS (huff w) = 8388608 := by
  obtain ⟨h1, h2, _⟩ := okW_in h
  have := kraftS_ks (huff w) 0 (huff_in h).2
  rw [kraftS, this, huff_ks w (by omega) h2 (okW_le h)]
  rfl
theorem huff_cost {w l : List Int} (h : okW w = true) (hl : l.length = w.length) (hv : ∀ x, x ∈ l → 1 ≤ x ∧ x ≤ 23) (hk : kraftS l ≤ 8388608) : costS w (huff w) ≤ costS w l := by
  obtain ⟨h1, h2, _⟩ := okW_in h
  have e := kraftS_ks l 0 hv
  have hk2 : ks l ≤ 2 ^ 23 := by
    have : ((ks l : Nat) : Int) ≤ 8388608 := by rw [kraftS, e] at hk; omega
    omega
  have := huff_opt w (by omega) (okW_le h) (prs w l) (prs_fst w l hl) (by rw [prs_kS w l hl]; exact hk2) (by
    intro p hp
    have := (List.of_mem_zip hp).2
    obtain ⟨x, hx, e⟩ := List.mem_map.1 this
    have := hv x hx; omega)
  rw [prs_cS w l fun x hx => by have := hv x hx; omega] at this
  simp only [costS, cst_dot]; omega

/-- What the law keeps: the weights, the cost, the other lengths. -/
def hlK (w more : List Int) (q : Nat) (o : List Int) (env : Env) (H : Heap) : Prop := H[q]? = some (.vec 0 1 (rowsI o)) ∧ o.length = w.length ∧ get env 1 = .sl (rowsU more) ∧ get env 5 = .sl (rowsI w) ∧ get env 12 = .int .i64 (costS w (huff w)) ∧ get env 14 = .own q 0 0 w.length
def hlI (w more : List Int) (q : Nat) (i : Nat) (env : Env) (H : Heap) : Prop := ∃ o, hlK w more q o env H ∧ i ≤ w.length ∧ (∀ j (hj : j < o.length), j < i → 1 ≤ o[j] ∧ o[j] ≤ 23) ∧ get env 84 = .int .i64 w.length ∧ get env 85 = .int .i64 i
def hlA (w more : List Int) (q : Nat) (e : X) (env : Env) (H : Heap) : Prop := e = .exit 0 ∧ ∃ o, hlK w more q o env H ∧ ∀ x, x ∈ o → 1 ≤ x ∧ x ≤ 23
def hlJ (w more : List Int) (q : Nat) (i : Nat) (env : Env) (H : Heap) : Prop := ∃ o, hlK w more q o env H ∧ i ≤ 200 ∧ (∀ x, x ∈ o → 1 ≤ x ∧ x ≤ 23) ∧ get env 16 = .int .i64 i
def hlB (more : List Int) (e : X) (env : Env) (_ : Heap) : Prop := (e = .ret ∧ get env 4 = .bool true) ∨ (e = .exit 2 ∧ get env 1 = .sl (rowsU more))

theorem huffLaw (code more : List Int) (hc : Bytes code) (hm : Bytes more) (w : List Int) (hw : w.length ≤ 25) (hok : okW w = true) (hd : callω Try.prog cf 13 [.sl (rowsU code)] [] = some (.sl (rowsI w), [])) (hl : code.length + more.length ≤ 1048576) :
    callω Try.prog cf 4 [.sl (rowsU code), .sl (rowsU more)] [] = some (.bool true, []) := by
  obtain ⟨w1, w2, w3⟩ := okW_in hok
  obtain ⟨i1, i2⟩ := huff_in hok
  have e2 := specLengthsOf_den w (by omega) hok
  have e3 := lengthsOf_den w (by omega) hok
  have e4 := sameInts_den (huff w) (huff w) (by omega)
  have e5 := kraftOf_den (huff w) (by omega)
  rw [okL_of (by omega) (by omega) i2, if_pos rfl, huff_kraft hok] at e5
  have e6 := costOf_den w (huff w) (by omega) (by omega)
  rw [okC_of hok i1 i2, if_pos rfl] at e6
  simp at e4
  have htk : List.take w.length (rowsI (huff w)) = rowsI (huff w) := List.take_of_length_le (by simp [i1])
  refine call_out Try.func4 rfl rfl rfl ?_; simp only [Try.f4]
  simp (maxSteps := 4000000) (disch := first | omega | (simp <;> omega) | fail) []
  refine Out_if (fun hc1 => ?_) (fun hc1 => ?_)
  · simp at hc1; omega
  simp (maxSteps := 4000000) (disch := first | omega | (simp <;> omega) | fail) [hd, e2, e3, e4, e5, e6, htk]
  rw [show List.replicate w.length [A.int .i64 0] = rowsI (List.replicate w.length 0) by simp [rowsI]]
  refine Out.mono (Out_iter (hlI w more 2) (fun i => w.length - i) (hlA w more 2) ?_ 0 _ _ ?_) ?_
  · rintro i env H ⟨o, ⟨hq, ho, g1, g5, g12, g14⟩, hi, hv, g84, g85⟩
    obtain ⟨bq, bq'⟩ := List.getElem?_eq_some_iff.1 hq
    simp (maxSteps := 4000000) (disch := first | omega | (simp <;> omega) | fail) [g84, g85]
    refine Out_if (fun hc2 => ?_) (fun hc2 => ?_)
    · have hlt : i < w.length := by simpa using hc2
      simp (maxSteps := 4000000) (disch := first | omega | (simp <;> omega) | fail) [g1, g5, g12, g14, g84, g85, bq']
      refine Out_if (fun hc3 => ?_) (fun hc3 => ?_)
      · have hlm : i < more.length := by simpa using hc3
        have hb := hm.2 more[i] (List.getElem_mem _)
        have ht := tmod_in more[i] 6 (by omega) (by omega)
        refine Out_draw pd4_20 ?_
        simp (maxSteps := 4000000) (disch := first | omega | (simp <;> omega) | fail) [g1, g5, g12, g14, g84, g85, bq']
        refine ⟨i + 1, by omega, o.set i (1 + more[i].tmod 6), ⟨by rw [rowsI_set o i (by omega)]; simp (maxSteps := 4000000) (disch := first | omega | (simp <;> omega) | fail) [], by simp [ho], by simp [g1], by simp [g5], by simp [g12], by simp [g14]⟩, by omega, fun j hj hji => ?_, by simp [g84], by simp⟩
        rw [List.getElem_set]
        split
        · omega
        · exact hv j (by simpa using hj) (by omega)
      · simp (maxSteps := 4000000) (disch := first | omega | (simp <;> omega) | fail) [g1, g5, g12, g14, g84, g85, bq']
        refine ⟨i + 1, by omega, o.set i 1, ⟨by rw [rowsI_set o i (by omega)]; simp (maxSteps := 4000000) (disch := first | omega | (simp <;> omega) | fail) [], by simp [ho], by simp [g1], by simp [g5], by simp [g12], by simp [g14]⟩, by omega, fun j hj hji => ?_, by simp [g84], by simp⟩
        rw [List.getElem_set]
        split
        · omega
        · exact hv j (by simpa using hj) (by omega)
    · have : i = w.length := by simp at hc2; omega
      subst this
      simp (maxSteps := 4000000) (disch := first | omega | (simp <;> omega) | fail) []
      refine ⟨rfl, o, ⟨hq, ho, by simp [g1], by simp [g5], by simp [g12], by simp [g14]⟩, fun x hx => ?_⟩
      obtain ⟨j, hj, rfl⟩ := List.getElem_of_mem hx
      exact hv j hj (by omega)
  · exact ⟨List.replicate w.length 0, ⟨rfl, by simp, by simp, by simp, by simp, by simp⟩, by omega, fun j hj h => by omega, by simp, by simp⟩
  · rintro e env H ⟨rfl, o, hk, hv⟩
    obtain ⟨hq, ho, g1, g5, g12, g14⟩ := hk
    simp (maxSteps := 4000000) (disch := first | omega | (simp <;> omega) | fail) []
    refine Out.mono (Out_iter (hlJ w more 2) (fun i => 200 - i) (hlB more) ?_ 0 _ _ ?_) ?_
    · rintro i env H ⟨o, ⟨hq, ho, g1, g5, g12, g14⟩, hi, hv, g16⟩
      obtain ⟨bq, bq'⟩ := List.getElem?_eq_some_iff.1 hq
      simp (maxSteps := 4000000) (disch := first | omega | (simp <;> omega) | fail) [g16]
      refine Out_if (fun hc2 => ?_) (fun hc2 => ?_)
      · have hlt : i < 200 := by simp at hc2; omega
        have htk2 : List.take w.length (rowsI o) = rowsI o := List.take_of_length_le (by simp [ho])
        have k1 := kraftOf_den o (by omega)
        rw [okL_of (by omega) (by omega) hv, if_pos rfl] at k1
        simp (maxSteps := 4000000) (disch := first | omega | (simp <;> omega) | fail) [g14, bq', htk2, k1]
        refine Out_if (fun hc3 => ?_) (fun hc3 => ?_)
        · have hkr : kraftS o ≤ 8388608 := by simpa using hc3
          have k2 := costOf_den w o (by omega) (by omega)
          rw [okC_of hok ho hv, if_pos rfl] at k2
          have k3 := huff_cost hok ho hv hkr
          simp (maxSteps := 4000000) (disch := first | omega | (simp <;> omega) | fail) [g5, g12, g14, bq', htk2, k2, k3]
          exact .inl ⟨rfl, by simp⟩
        · have hwne : ¬ w = [] := fun e => by subst e; simp at w1
          have htm : ((i : Int)).tmod (w.length : Int) = ((i % w.length : Nat) : Int) := rfl
          have hmod : i % w.length < w.length := Nat.mod_lt _ (by omega)
          generalize i % w.length = k at *
          simp (maxSteps := 4000000) (disch := first | omega | (simp <;> omega) | fail) [g14, g16, hwne, htm, bq']
          refine Out_if (fun hc4 => ?_) (fun hc4 => ?_)
          · have hok2 : o[k] < 23 := by simpa using hc4
            have hvk := hv o[k] (List.getElem_mem _)
            simp (maxSteps := 4000000) (disch := first | omega | (simp <;> omega) | fail) [g14, g16, hwne, htm, bq']
            refine ⟨i + 1, by omega, o.set k (o[k] + 1), ⟨by rw [rowsI_set o k (by omega)]; simp (maxSteps := 4000000) (disch := first | omega | (simp <;> omega) | fail) [], by simp [ho], by simp [g1], by simp [g5], by simp [g12], by simp [g14]⟩, by omega, fun x hx => ?_, by simp⟩
            rcases List.mem_or_eq_of_mem_set hx with e | e
            · exact hv x e
            · omega
          · simp (maxSteps := 4000000) (disch := first | omega | (simp <;> omega) | fail) [g14, g16]
            exact ⟨i + 1, by omega, o, ⟨hq, ho, by simp [g1], by simp [g5], by simp [g12], by simp [g14]⟩, by omega, hv, by simp⟩
      · have : i = 200 := by simp at hc2; omega
        subst this
        simp (maxSteps := 4000000) (disch := first | omega | (simp <;> omega) | fail) []
        exact .inr ⟨rfl, by simp [g1]⟩
    · exact ⟨o, ⟨hq, ho, by simp [g1], by simp [g5], by simp [g12], by simp [g14]⟩, by omega, hv, by simp⟩
    · rintro e env H (⟨rfl, g4⟩ | ⟨rfl, g1⟩)
      · simp (maxSteps := 4000000) (disch := first | omega | (simp <;> omega) | fail) [g4]
      · simp (maxSteps := 4000000) (disch := first | omega | (simp <;> omega) | fail) [g1]
        refine Out_exK (drawCostOf_ex more hm) ?_
        rintro r h ⟨rfl, a, b, rfl, ⟨la, rfl, ha⟩, ⟨lb, rfl, hb⟩⟩
        have k1 := costOf_den la lb (by omega) (by omega)
        have k2 := specCostOf_den la lb (by omega) (by omega)
        generalize (if okC la lb = true then costS la lb else 0) = v at *
        generalize okC la lb = bb at *
        simp (maxSteps := 4000000) (disch := first | omega | (simp <;> omega) | fail) [k1, k2]
theorem huffLaw_no (code more : List Int) (w : List Int) (hw : w.length ≤ 25) (hok : okW w = false) (hd : callω Try.prog cf 13 [.sl (rowsU code)] [] = some (.sl (rowsI w), [])) (hl : code.length + more.length ≤ 1048576) :
    callω Try.prog cf 4 [.sl (rowsU code), .sl (rowsU more)] [] = some (.bool true, []) := by
  have e2 := specLengthsOf_no w (by omega) hok
  have e3 := lengthsOf_no w (by omega) hok
  have e4 := sameInts_den [] [] (by simp)
  simp [rowsI] at e4
  refine call_out Try.func4 rfl rfl rfl ?_; simp only [Try.f4]
  simp (maxSteps := 4000000) (disch := first | omega | (simp <;> omega) | fail) []
  refine Out_if (fun hc1 => ?_) (fun hc1 => ?_)
  · simp at hc1; omega
  simp (maxSteps := 4000000) (disch := first | omega | (simp <;> omega) | fail) [hd, e2, e3, e4]
theorem huffLaw_long (code more : List Int) (hl : ¬ code.length + more.length ≤ 1048576) (h1 : code.length ≤ 281474976710656) (h2 : more.length ≤ 281474976710656) :
    callω Try.prog cf 4 [.sl (rowsU code), .sl (rowsU more)] [] = some (.bool true, []) := by
  refine call_out Try.func4 rfl rfl rfl ?_; simp only [Try.f4]
  simp (maxSteps := 4000000) (disch := first | omega | (simp <;> omega) | fail) []
  refine Out_if (fun hc1 => ?_) (fun hc1 => ?_)
  · simp (maxSteps := 4000000) (disch := first | omega | (simp <;> omega) | fail) []
  · simp at hc1; omega
theorem huffLaw_all (code more : List Int) (hc : ∀ x, x ∈ code → 0 ≤ x ∧ x ≤ 255) (hm : ∀ x, x ∈ more → 0 ≤ x ∧ x ≤ 255) (h1 : code.length ≤ 281474976710656) (h2 : more.length ≤ 281474976710656) :
    callω Try.prog cf 4 [.sl (rowsU code), .sl (rowsU more)] [] = some (.bool true, []) := by
  by_cases hl : code.length + more.length ≤ 1048576
  · obtain ⟨r, h, hd, ⟨w, rfl, hw⟩, rfl⟩ := drawLengthsOf_ex code ⟨by omega, hc⟩
    cases hok : okW w with
    | true => exact huffLaw code more ⟨by omega, hc⟩ ⟨by omega, hm⟩ w hw hok hd hl
    | false => exact huffLaw_no code more w hw hok hd hl
  · exact huffLaw_long code more hl h1 h2
end Go.Proofs.Ytckjogpdnkocbaa.Den
namespace Go.Proofs.Ytckjogpdnkocbaa.Den
open Go.Proofs
theorem progNames : (Try.prog.funcs.toList.all fun fn => !(fn.name == "runtime.NumGoroutine")) = true := by kernel_rfl
theorem progOk : ProgOk Try.prog := by
  refine ⟨by kernel_rfl, fun f fn h => ?_⟩
  have h1 := List.all_eq_true.1 progNames fn (by
    have := Array.getElem?_eq_some_iff.1 h
    obtain ⟨h2, h3⟩ := this
    rw [← h3]; simp)
  simpa using h1
theorem orcOk : OrcOk Try.prog cf := by
  intro f g h
  exact absurd h (by simp [cf])
theorem wf_u8 {n : Int} (h : (Lit.int .u8 n).wf = true) : 0 ≤ n ∧ n ≤ 255 := by
  simp [Lit.wf, IntKind.min, IntKind.max, IntKind.bits, IntKind.signed] at h
  omega
end Go.Proofs.Ytckjogpdnkocbaa.Den
