/- A part of the proof: The law FnHuffman is proved for every input: it returns true and its arguments read as before. No condition. How: an abstract run of the program (told in Lean, proved sound against the model) is computed for every drawn list of weights; that no code costs less than Huffman's, and that his fills all room, is proved in plain Lean on lists of trees. -/
import Derived.Test.YtckjogpdnkocbaaDen7
set_option linter.unusedSimpArgs false
set_option linter.unusedVariables false
namespace Go.Proofs.Ytckjogpdnkocbaa.Den

section
variable {P : Program} {w w' : World} {φ φ' : Phi} {h h' : Heap} {B B' : Nat} {bs : List Nat} {env : Env} {nt : Nat} {act : Act}

def Killable (h : Heap) (ks : List Nat) : Prop := ∀ b, b ∈ ks → b < h.length ∧ ∀ cs, h[b]? ≠ some (.var cs)

theorem killAll_ok : ∀ (ks : List Nat) {φ : Phi} {h : Heap}, Sim bs w φ h → Killable h ks →
    ∃ φk, Tr w φ h w φk (killAll h ks) ∧ Sim bs w φk (killAll h ks) ∧ ∀ b, b ∈ ks → ∀ k, φ b = some k → ∀ i, φk i ≠ some k
  | [], φ, h, S, _ => ⟨φ, Tr.refl _ _ _, S, fun b hb => absurd hb (by simp)⟩
  | b :: ks, φ, h, S, hk => by
    obtain ⟨hlt, hnv⟩ := hk b (by simp)
    have T1 := kill_tr (w := w) (φ := φ) hnv
    have S1 := kill_sim S hlt hnv
    obtain ⟨φk, T2, S2, h2⟩ := killAll_ok ks S1 (fun c hc => by
      obtain ⟨a1, a2⟩ := hk c (by simp [hc])
      refine ⟨by simpa using a1, fun cs hh => ?_⟩
      rcases set_get hh with ⟨_, e⟩ | ⟨_, e, _⟩
      · exact a2 cs e
      · exact absurd e (by simp))
    refine ⟨φk, T1.trans T2, S2, fun c hc k hck => ?_⟩
    by_cases hcb : c = b
    · subst hcb
      refine (T2.keep k (S.dom c k hck).2 fun i hi => ?_).2
      by_cases hi2 : i = c
      · subst hi2; rw [upd_same] at hi; exact absurd hi (by simp)
      · rw [upd_ne _ _ hi2] at hi; exact hi2 (S.inj i c k hi hck)
    · rcases List.mem_cons.1 hc with e | e
      · exact absurd e hcb
      · exact h2 c e k (by rw [upd_ne _ _ hcb]; exact hck)

/-- What stands for an argument once its rows are let go. -/
def SnapOk (w : World) (φ : Phi) (h : Heap) (ks : List Nat) (R : Phi → Heap → Prop) : Prop :=
  Killable h ks ∧ ∀ φk hk, Tr w φ h w φk hk → (∀ b, b ∈ ks → ∀ k, φ b = some k → ∀ i, φk i ≠ some k) → R φk hk

theorem snap1_ok (S : Sim bs w φ h) {a a' : A} {ks : List Nat} (hs : snap1 h a = some (a', ks)) {v : Value} (hr : Rep w φ h h.length a v) :
    SnapOk w φ h ks fun φk hk => Rep w φk hk hk.length a' v := by
  unfold snap1 at hs
  split at hs
  · rename_i b ver off n
    cases hx : h[b]? with
    | none => simp [hx] at hs
    | some x =>
      cases x with
      | dead => simp [hx] at hs
      | var => simp [hx] at hs
      | vec ver' sz rows =>
        simp only [hx] at hs
        split at hs
        · rename_i e
          subst e
          injection hs with hs
          injection hs with e1 e2
          subst e1; subst e2
          cases hr with
          | own _ _ _ _ _ ao c hb hn ho =>
            refine ⟨fun c hc => ?_, fun φk hk T hfree => ?_⟩
            · rw [List.mem_singleton] at hc; subst hc
              exact ⟨hb, fun cs hc => by rw [hx] at hc; exact absurd hc (by simp)⟩
            · exact own_frozen S hx hb hn ho T fun k hk => ⟨rfl, hfree b (by simp) k hk⟩
        · exact absurd hs (by simp)
  · injection hs with hs
    injection hs with e1 e2
    subst e1; subst e2
    exact ⟨fun c hc => absurd hc (by simp), fun φk hk T _ => hr.tr T (Nat.le_refl _) T.len⟩

theorem SnapOk.and {k1 k2 : List Nat} {R1 R2 R : Phi → Heap → Prop} (h1 : SnapOk w φ h k1 R1) (h2 : SnapOk w φ h k2 R2) (hR : ∀ φk hk, R1 φk hk → R2 φk hk → R φk hk) : SnapOk w φ h (k1 ++ k2) R :=
  ⟨fun b hb => (List.mem_append.1 hb).elim (h1.1 b) (h2.1 b), fun φk hk T hf => hR _ _ (h1.2 φk hk T fun b hb => hf b (List.mem_append_left _ hb)) (h2.2 φk hk T fun b hb => hf b (List.mem_append_right _ hb))⟩

theorem snapL_ok (S : Sim bs w φ h) : ∀ {as as' : List A} {ks : List Nat} {vs : List Value}, snapL h as = some (as', ks) → RepL w φ h h.length as vs →
    SnapOk w φ h ks fun φk hk => RepL w φk hk hk.length as' vs
  | [], _, _, _, hs, hr => by
    cases hr
    simp only [snapL, Option.some.injEq, Prod.mk.injEq] at hs
    obtain ⟨rfl, rfl⟩ := hs
    exact ⟨fun c hc => absurd hc (by simp), fun _ _ _ _ => .nil _⟩
  | a :: as, _, _, _, hs, hr => by
    cases hr with
    | cons _ _ _ v vs ha hr =>
      simp only [snapL] at hs
      cases h1 : snap1 h a with
      | none => simp [h1] at hs
      | some p =>
        cases h2 : snapL h as with
        | none => simp [h1, h2] at hs
        | some q =>
          simp only [h1, h2, Option.some.injEq, Prod.mk.injEq] at hs
          obtain ⟨rfl, rfl⟩ := hs
          exact (snap1_ok S (a' := p.1) (ks := p.2) h1 ha).and (snapL_ok S (as' := q.1) (ks := q.2) h2 hr) fun _ _ r1 r2 => .cons _ _ _ _ _ r1 r2

theorem snap_ok (S : Sim bs w φ h) {a a' : A} {ks : List Nat} (hs : snap h a = some (a', ks)) {v : Value} (hr : Rep w φ h h.length a v) :
    SnapOk w φ h ks fun φk hk => Rep w φk hk hk.length a' v := by
  unfold snap at hs
  split at hs
  · rename_i cs
    cases h1 : snapL h cs with
    | none => simp [h1] at hs
    | some q =>
      simp only [h1, Option.some.injEq, Prod.mk.injEq] at hs
      obtain ⟨rfl, rfl⟩ := hs
      cases hr with
      | agg _ _ vs hl =>
        have := snapL_ok S (as' := q.1) (ks := q.2) h1 hl
        exact ⟨this.1, fun φk hk T hf => .agg _ _ _ (this.2 φk hk T hf)⟩
  · exact snap1_ok S hs hr

theorem snaps_ok (S : Sim bs w φ h) : ∀ {as as' : List A} {ks : List Nat} {vs : List Value}, snaps h as = some (as', ks) → RepL w φ h h.length as vs →
    SnapOk w φ h ks fun φk hk => RepL w φk hk hk.length as' vs
  | [], _, _, _, hs, hr => by
    cases hr
    simp only [snaps, Option.some.injEq, Prod.mk.injEq] at hs
    obtain ⟨rfl, rfl⟩ := hs
    exact ⟨fun c hc => absurd hc (by simp), fun _ _ _ _ => .nil _⟩
  | a :: as, _, _, _, hs, hr => by
    cases hr with
    | cons _ _ _ v vs ha hr =>
      simp only [snaps] at hs
      cases h1 : snap h a with
      | none => simp [h1] at hs
      | some p =>
        cases h2 : snaps h as with
        | none => simp [h1, h2] at hs
        | some q =>
          simp only [h1, h2, Option.some.injEq, Prod.mk.injEq] at hs
          obtain ⟨rfl, rfl⟩ := hs
          exact (snap_ok S (a' := p.1) (ks := p.2) h1 ha).and (snaps_ok S (as' := q.1) (ks := q.2) h2 hr) fun _ _ r1 r2 => .cons _ _ _ _ _ r1 r2

/-! Values without references, told anew. -/
mutual
theorem Rep.re (hout : ∀ b, b < w.heap.size → φ.out b → φ'.out b) : ∀ {a : A} {v : Value}, Rep w φ h 0 a v → Rep w φ' h' 0 a v
  | _, _, .undef _ v => .undef _ v
  | _, _, .bool _ b => .bool _ b
  | _, _, .int _ k n => .int _ k n
  | _, _, .str _ s => .str _ s
  | _, _, .nilp _ => .nilp _
  | _, _, .nilif _ => .nilif _
  | _, _, .errv _ t u => .errv _ t u
  | _, _, .sl0 _ ao c => .sl0 _ ao c
  | _, _, .sl1 _ row rows b off sz c hc hb hφ hr => .sl1 _ row rows b off sz c hc hb (hout b hb hφ) (RepRows.re hout hr)
  | _, _, .own _ b ver off n ao c hb hn ho => absurd hb (Nat.not_lt_zero _)
  | _, _, .agg _ cs vs hl => .agg _ cs vs (RepL.re hout hl)
  | _, _, .tup _ cs vs hl => .tup _ cs vs (RepL.re hout hl)
  | _, _, .ptr _ b j k hb hv hk => absurd hb (Nat.not_lt_zero _)
  | _, _, .vptr _ b ver i j p hb hp => absurd hb (Nat.not_lt_zero _)
  | _, _, .eptr _ row j b off hb hφ hr => .eptr _ row j b off hb (hout b hb hφ) (RepCells.re hout hr)
  | _, _, .fn _ f caps vs hl => .fn _ f caps vs (RepL.re hout hl)
theorem RepL.re (hout : ∀ b, b < w.heap.size → φ.out b → φ'.out b) : ∀ {as : List A} {vs : List Value}, RepL w φ h 0 as vs → RepL w φ' h' 0 as vs
  | _, _, .nil _ => .nil _
  | _, _, .cons _ a as v vs ha hr => .cons _ a as v vs (Rep.re hout ha) (RepL.re hout hr)
theorem RepCells.re (hout : ∀ b, b < w.heap.size → φ.out b → φ'.out b) : ∀ {b off : Nat} {as : List A}, RepCells w φ h b off as → RepCells w φ' h' b off as
  | _, _, _, .nil b off => .nil b off
  | _, _, _, .cons b off a as v hc ha hr => .cons b off a as v hc (Rep.re hout ha) (RepCells.re hout hr)
theorem RepRows.re (hout : ∀ b, b < w.heap.size → φ.out b → φ'.out b) : ∀ {b sz off : Nat} {rows : List (List A)}, RepRows w φ h b sz off rows → RepRows w φ' h' b sz off rows
  | _, _, _, _, .nil b sz off => .nil b sz off
  | _, _, _, _, .cons b sz off row rows hl hc hr => .cons b sz off row rows hl (RepCells.re hout hc) (RepRows.re hout hr)
end

theorem flat1_re {a : A} (hf : flat1 a = true) {v : Value} (hr : Rep w φ h 0 a v) : Rep w φ' h' 0 a v := by
  cases hr with
  | undef => exact .undef _ _
  | bool => exact .bool _ _
  | int => exact .int _ _ _
  | str => exact .str _ _
  | nilp => exact .nilp _
  | nilif => exact .nilif _
  | errv => exact .errv _ _ _
  | sl0 => simp [flat1] at hf
  | sl1 => simp [flat1] at hf
  | own _ _ _ _ _ _ _ hb => exact absurd hb (Nat.not_lt_zero _)
  | agg => simp [flat1] at hf
  | tup => simp [flat1] at hf
  | ptr _ _ _ _ hb => exact absurd hb (Nat.not_lt_zero _)
  | vptr _ _ _ _ _ _ hb => exact absurd hb (Nat.not_lt_zero _)
  | eptr => simp [flat1] at hf
  | fn _ _ caps _ hl =>
    cases caps with
    | nil => cases hl; exact .fn _ _ _ _ (.nil _)
    | cons => simp [flat1] at hf

theorem flatL_re : ∀ {as : List A} (_ : as.all flat1 = true) {vs : List Value} (_ : RepL w φ h 0 as vs), RepL w φ' h' 0 as vs
  | [], _, _, hr => by cases hr; exact .nil _
  | a :: as, hf, _, hr => by
    cases hr with
    | cons _ _ _ v vs ha hr =>
      rw [List.all_cons, Bool.and_eq_true] at hf
      exact .cons _ _ _ _ _ (flat1_re hf.1 ha) (flatL_re hf.2 hr)

/-- What a call of its own sees: all blocks are another's. -/
def lone (φ : Phi) : Phi := ⟨fun _ => none, fun k => φ.fr k ∨ ∃ i, φ i = some k⟩

theorem lone_out (b : Nat) (hb : φ.out b) : (lone φ).out b :=
  ⟨fun i => by simp [lone], fun hc => hc.elim hb.2 fun ⟨i, hi⟩ => hb.1 i hi⟩

theorem lone_sim (S : Sim bs w φ h) : Sim [] w (lone φ) [] :=
  ⟨fun i j k hi => by simp [lone] at hi, fun i k hi => by simp [lone] at hi, fun B hB => by simp at hB, fun i k hi => by simp [lone] at hi,
    fun k hk => hk.elim (S.frd k) fun ⟨i, hi⟩ => (S.dom i k hi).2, fun B _ b x _ hx => by simp at hx⟩

theorem pure1_lone {a : A} (hp : pure1 a = true) {v : Value} (hr : Rep w φ h B a v) : Rep w (lone φ) [] 0 a v := by
  cases hr with
  | undef => simp [pure1] at hp
  | bool => exact .bool _ _
  | int => exact .int _ _ _
  | str => exact .str _ _
  | nilp => exact .nilp _
  | nilif => exact .nilif _
  | errv => exact .errv _ _ _
  | sl0 _ ao c => exact .sl0 _ ao c
  | sl1 _ row rows b off sz c hc hb hφ hr => exact .sl1 _ row rows b off sz c hc hb (lone_out b hφ) (RepRows.re (fun b _ h => lone_out b h) hr)
  | own => simp [pure1] at hp
  | agg => simp [pure1] at hp
  | tup => simp [pure1] at hp
  | ptr => simp [pure1] at hp
  | vptr => simp [pure1] at hp
  | eptr => simp [pure1] at hp
  | fn _ _ caps _ hl =>
    cases caps with
    | nil => cases hl; exact .fn _ _ _ _ (.nil _)
    | cons => simp [pure1] at hp

theorem pureL_lone : ∀ {as : List A} (_ : as.all pure1 = true) {vs : List Value} (_ : RepL w φ h B as vs), RepL w (lone φ) [] 0 as vs
  | [], _, _, hr => by cases hr; exact .nil _
  | a :: as, hf, _, hr => by
    cases hr with
    | cons _ _ _ v vs ha hr =>
      rw [List.all_cons, Bool.and_eq_true] at hf
      exact .cons _ _ _ _ _ (pure1_lone hf.1 ha) (pureL_lone hf.2 hr)

theorem pureA_lone {a : A} (hp : pureA a = true) {v : Value} (hr : Rep w φ h B a v) : Rep w (lone φ) [] 0 a v := by
  unfold pureA at hp
  split at hp
  · cases hr with
    | agg _ _ vs hl => exact .agg _ _ _ (pureL_lone hp hl)
  · exact pure1_lone hp hr

theorem pureAs_lone : ∀ {as : List A} (_ : as.all pureA = true) {vs : List Value} (_ : RepL w φ h B as vs), RepL w (lone φ) [] 0 as vs
  | [], _, _, hr => by cases hr; exact .nil _
  | a :: as, hf, _, hr => by
    cases hr with
    | cons _ _ _ v vs ha hr =>
      rw [List.all_cons, Bool.and_eq_true] at hf
      exact .cons _ _ _ _ _ (pureA_lone hf.1 ha) (pureAs_lone hf.2 hr)
end
end Go.Proofs.Ytckjogpdnkocbaa.Den
namespace Go.Proofs.Ytckjogpdnkocbaa.Den

section
variable {P : Program} {w w' : World} {φ φ' φ1 φe : Phi} {h h' hr : Heap} {B B' : Nat} {bs : List Nat} {env : Env} {nt : Nat} {act : Act}

def joinφ (φ φ1 : Phi) (N : Nat) : Phi := ⟨fun i => if i < N then φ i else φ1 (i - N), φ.fr⟩
theorem join_lt (φ φ1 : Phi) {N i : Nat} (hi : i < N) : joinφ φ φ1 N i = φ i := by
  show (if i < N then φ i else φ1 (i - N)) = _
  rw [if_pos hi]
theorem join_ge (φ φ1 : Phi) {N i : Nat} (hi : N ≤ i) : joinφ φ φ1 N i = φ1 (i - N) := by
  show (if i < N then φ i else φ1 (i - N)) = _
  rw [if_neg (by omega)]

theorem join_tr (S : Sim bs w φ h) (he : ∀ i, φe i = none) (T1 : Tr w φe [] w' φ1 hr) : Tr w φ h w' (joinφ φ φ1 h.length) (h ++ hr) := by
  have hk : ∀ k, k < w.heap.size → w'.heap[k]? = w.heap[k]? ∧ ∀ i, φ1 i ≠ some k := fun k hk => T1.keep k hk fun i hi => by rw [he] at hi; exact absurd hi (by simp)
  refine ⟨T1.os, T1.tape, T1.output, T1.size, by simp, ?_, ?_, ?_, rfl⟩
  · intro k hlt hout
    refine ⟨(hk k hlt).1, fun i => ?_⟩
    rcases Nat.lt_or_ge i h.length with hi | hi
    · rw [join_lt _ _ hi]; exact hout i
    · rw [join_ge _ _ hi]; exact (hk k hlt).2 _
  · intro b cs hc
    have hb := idx_lt hc
    exact ⟨⟨cs, by rw [List.getElem?_append_left hb]; exact hc⟩, join_lt _ _ hb⟩
  · intro b hb ver sz rows hh
    rw [List.getElem?_append_left hb] at hh
    refine ⟨ver, sz, rows, hh, Nat.le_refl _, fun _ => ⟨rfl, rfl, join_lt _ _ hb, fun k hbk => ?_⟩⟩
    simp only [cellsIn, (hk k (S.dom b k hbk).2).1]

theorem join_sim (S : Sim bs w φ h) (he : ∀ i, φe i = none) (T1 : Tr w φe [] w' φ1 hr) (S1 : Sim [] w' φ1 hr) (hv : ∀ (b : Nat) cs, hr[b]? ≠ some (Blk.var cs))
    (hre : hr.all flatB = true ∨ ∀ b, b < w'.heap.size → φ1.out b → (joinφ φ φ1 h.length).out b) : Sim bs w' (joinφ φ φ1 h.length) (h ++ hr) := by
  have T := join_tr S he T1
  have hk : ∀ k, k < w.heap.size → w'.heap[k]? = w.heap[k]? ∧ ∀ i, φ1 i ≠ some k := fun k hk => T1.keep k hk fun i hi => by rw [he] at hi; exact absurd hi (by simp)
  refine S.step T ?_ ?_ ?_
  · intro i j k hi hj
    rcases Nat.lt_or_ge i h.length with h1 | h1 <;> rcases Nat.lt_or_ge j h.length with h2 | h2
    · rw [join_lt _ _ h1] at hi; rw [join_lt _ _ h2] at hj; exact S.inj i j k hi hj
    · rw [join_lt _ _ h1] at hi; rw [join_ge _ _ h2] at hj; exact absurd hj ((hk k (S.dom i k hi).2).2 _)
    · rw [join_ge _ _ h1] at hi; rw [join_lt _ _ h2] at hj; exact absurd hi ((hk k (S.dom j k hj).2).2 _)
    · rw [join_ge _ _ h1] at hi; rw [join_ge _ _ h2] at hj
      have := S1.inj _ _ k hi hj
      omega
  · intro i k hi
    rcases Nat.lt_or_ge i h.length with h1 | h1
    · rw [join_lt _ _ h1] at hi
      have := S.dom i k hi
      exact ⟨by rw [List.length_append]; omega, Nat.lt_of_lt_of_le this.2 T.size⟩
    · rw [join_ge _ _ h1] at hi
      have := S1.dom _ k hi
      exact ⟨by rw [List.length_append]; omega, this.2⟩
  · intro b x hx
    rcases Nat.lt_or_ge b h.length with h1 | h1
    · rw [List.getElem?_append_left h1] at hx
      exact .inl ⟨hx, join_lt _ _ h1, fun k hbk => (hk k (S.dom b k hbk).2).1⟩
    · rw [List.getElem?_append_right h1] at hx
      refine .inr fun B _ _ => ?_
      have hb := S1.blk hr.length (.inl rfl) (b - h.length) x (idx_lt hx) hx
      cases x with
      | dead => exact (join_ge _ _ h1).trans hb
      | var cs => exact absurd hx (hv _ cs)
      | vec ver sz rows =>
        rcases hb with ⟨a1, a2, a3⟩ | ⟨k, et, fz, cells, a1, a2, a3, a4, a5, a6⟩
        · exact .inl ⟨(join_ge _ _ h1).trans a1, a2, a3⟩
        · refine .inr ⟨k, et, fz, cells, (join_ge _ _ h1).trans a1, a2, a3, a4, a5, fun i row hi => ⟨(a6 i row hi).1, ?_⟩⟩
          rcases hre with hf | hout
          · have := List.all_eq_true.1 hf _ (List.mem_of_getElem? hx)
            exact flatL_re (List.all_eq_true.1 this row (List.mem_of_getElem? hi)) (a6 i row hi).2
          · exact RepL.re hout (a6 i row hi).2

def res1 : A → Bool
  | .own _ _ _ _ => true
  | a => pure1 a
def resA : A → Bool
  | .agg cs => cs.all res1
  | a => res1 a
def resR : A → Bool
  | .tup vs => vs.all resA
  | a => resA a

theorem join_rep1 {N : Nat} (hN : N = h.length) {a : A} (ha : res1 a = true) (hre : flat1 a = true ∨ ∀ b, b < w'.heap.size → φ1.out b → (joinφ φ φ1 N).out b) {v : Value} (hrp : Rep w' φ1 hr hr.length a v) :
    Rep w' (joinφ φ φ1 N) (h ++ hr) (h ++ hr).length (shift1 N a) v := by
  subst hN
  cases hrp with
  | undef => simp [res1, pure1] at ha
  | bool => exact .bool _ _
  | int => exact .int _ _ _
  | str => exact .str _ _
  | nilp => exact .nilp _
  | nilif => exact .nilif _
  | errv => exact .errv _ _ _
  | sl0 _ ao c => exact .sl0 _ ao c
  | sl1 _ row rows b off sz c hc hb hφ hr2 =>
    rcases hre with hf | hout
    · simp [flat1] at hf
    · exact .sl1 _ row rows b off sz c hc hb (hout b hb hφ) (RepRows.re hout hr2)
  | own _ b ver off n ao c hb hn ho =>
    have hget : (h ++ hr)[h.length + b]? = hr[b]? := by rw [List.getElem?_append_right (by omega)]; congr 1; omega
    have hj : joinφ φ φ1 h.length (h.length + b) = φ1 b := by rw [join_ge _ _ (by omega)]; congr 1; omega
    refine .own _ _ _ _ _ _ _ (by rw [List.length_append]; omega) hn ⟨fun ver' sz rows hh => ?_, fun sz rows hh => ?_⟩
    · rw [hget] at hh; exact ho.le _ _ _ hh
    · rw [hget] at hh; rw [hj]; exact ho.now _ _ hh
  | agg => simp [res1, pure1] at ha
  | tup => simp [res1, pure1] at ha
  | ptr => simp [res1, pure1] at ha
  | vptr => simp [res1, pure1] at ha
  | eptr => simp [res1, pure1] at ha
  | fn _ _ caps _ hl =>
    cases caps with
    | nil => cases hl; exact .fn _ _ _ _ (.nil _)
    | cons => simp [res1, pure1] at ha

theorem join_repL {N : Nat} (hN : N = h.length) : ∀ {as : List A} (_ : as.all res1 = true) (_ : as.all flat1 = true ∨ ∀ b, b < w'.heap.size → φ1.out b → (joinφ φ φ1 N).out b) {vs : List Value} (_ : RepL w' φ1 hr hr.length as vs),
    RepL w' (joinφ φ φ1 N) (h ++ hr) (h ++ hr).length (as.map (shift1 N)) vs
  | [], _, _, _, hrp => by cases hrp; exact .nil _
  | a :: as, ha, hre, _, hrp => by
    cases hrp with
    | cons _ _ _ v vs h1 h2 =>
      rw [List.all_cons, Bool.and_eq_true] at ha
      refine .cons _ _ _ _ _ (join_rep1 hN ha.1 (hre.imp (fun e => ?_) id) h1) (join_repL hN ha.2 (hre.imp (fun e => ?_) id) h2)
      · rw [List.all_cons, Bool.and_eq_true] at e; exact e.1
      · rw [List.all_cons, Bool.and_eq_true] at e; exact e.2

theorem join_repA {N : Nat} (hN : N = h.length) {a : A} (ha : resA a = true) (hre : flatA a = true ∨ ∀ b, b < w'.heap.size → φ1.out b → (joinφ φ φ1 N).out b) {v : Value} (hrp : Rep w' φ1 hr hr.length a v) :
    Rep w' (joinφ φ φ1 N) (h ++ hr) (h ++ hr).length (shiftA N a) v := by
  unfold resA at ha
  split at ha
  · cases hrp with
    | agg _ _ vs hl => exact .agg _ _ _ (join_repL hN ha hre hl)
  · rename_i hna
    have e1 : shiftA N a = shift1 N a := by
      cases a <;> first | rfl | exact absurd rfl (hna _)
    have e2 : flatA a = flat1 a := by
      cases a <;> first | rfl | exact absurd rfl (hna _)
    rw [e1]; rw [e2] at hre
    exact join_rep1 hN ha hre hrp

theorem join_repAs {N : Nat} (hN : N = h.length) : ∀ {as : List A} (_ : as.all resA = true) (_ : as.all flatA = true ∨ ∀ b, b < w'.heap.size → φ1.out b → (joinφ φ φ1 N).out b) {vs : List Value} (_ : RepL w' φ1 hr hr.length as vs),
    RepL w' (joinφ φ φ1 N) (h ++ hr) (h ++ hr).length (as.map (shiftA N)) vs
  | [], _, _, _, hrp => by cases hrp; exact .nil _
  | a :: as, ha, hre, _, hrp => by
    cases hrp with
    | cons _ _ _ v vs h1 h2 =>
      rw [List.all_cons, Bool.and_eq_true] at ha
      refine .cons _ _ _ _ _ (join_repA hN ha.1 (hre.imp (fun e => ?_) id) h1) (join_repAs hN ha.2 (hre.imp (fun e => ?_) id) h2)
      · rw [List.all_cons, Bool.and_eq_true] at e; exact e.1
      · rw [List.all_cons, Bool.and_eq_true] at e; exact e.2

theorem join_repR {N : Nat} (hN : N = h.length) {a : A} (ha : resR a = true) (hre : flatR a = true ∨ ∀ b, b < w'.heap.size → φ1.out b → (joinφ φ φ1 N).out b) {v : Value} (hrp : Rep w' φ1 hr hr.length a v) :
    Rep w' (joinφ φ φ1 N) (h ++ hr) (h ++ hr).length (shift N a) v := by
  unfold resR at ha
  split at ha
  · cases hrp with
    | tup _ _ vs hl => exact .tup _ _ _ (join_repAs hN ha hre hl)
  · rename_i hna
    have e1 : shift N a = shiftA N a := by
      cases a <;> first | rfl | exact absurd rfl (hna _)
    have e2 : flatR a = flatA a := by
      cases a <;> first | rfl | exact absurd rfl (hna _)
    rw [e1]; rw [e2] at hre
    exact join_repA hN ha hre hrp

/-- How a call ends that gives back what is told. -/
def Rets (bs : List Nat) (w : World) (φ : Phi) (h : Heap) (r : A × Heap) : Ending → World → Prop := fun e w' =>
  ∃ v φ', e = .returned v ∧ Tr w φ h w' φ' r.2 ∧ Sim bs w' φ' r.2 ∧ Rep w' φ' r.2 r.2.length r.1 v

/-- A call is begun, or is done at once. -/
def Called (P : Program) (f : FuncId) (args : Array Value) (w : World) (R : Ending → World → Prop) : Prop :=
  ((callFunc f args).run P w = .ok (.enter f args) w ∧ Calls P f args w R) ∨ ∃ v w', (callFunc f args).run P w = .ok (.value v) w' ∧ R (.returned v) w'

theorem Called.mono {f : FuncId} {args : Array Value} {R R' : Ending → World → Prop} (hc : Called P f args w R) (hR : ∀ e w', R e w' → R' e w') : Called P f args w R' :=
  hc.imp (fun ⟨a, b⟩ => ⟨a, Calls.mono b hR⟩) fun ⟨v, w', a, b⟩ => ⟨v, w', a, hR _ _ b⟩

/-- What the calls are told to give is what they give. -/
structure CallOk (P : Program) (C : CallFn) : Prop where
  run : ∀ f args h r, C f args h = some r → ∀ bs w φ vals, Sim bs w φ h → RepL w φ h h.length args vals → Called P f vals.toArray w (Rets bs w φ h r)
  res : ∀ f args r, C f args [] = some r → resR r.1 = true ∧ ∀ (b : Nat) cs, r.2[b]? ≠ some (Blk.var cs)

theorem killAll_length : ∀ (ks : List Nat) (h : Heap), (killAll h ks).length = h.length
  | [], _ => rfl
  | b :: ks, h => by rw [killAll, killAll_length ks]; simp

theorem callA_ok {C : CallFn} (hC : CallOk P C) (S : Sim bs w φ h) {f : FuncId} {args : List A} {r : A × Heap} (hc : callA C f args h = some r) {vals : List Value} (hr : RepL w φ h h.length args vals) :
    Called P f vals.toArray w (Rets bs w φ h r) := by
  unfold callA at hc
  cases hs : snaps h args with
  | none => simp [hs] at hc
  | some q =>
    obtain ⟨args', ks⟩ := q
    simp only [hs] at hc
    obtain ⟨hkill, hsn⟩ := snaps_ok S hs hr
    obtain ⟨φk, Tk, Sk, hfree⟩ := killAll_ok ks S hkill
    have hargs := hsn φk _ Tk hfree
    split at hc
    · rename_i hp
      cases h1 : C f args' [] with
      | none => simp [h1] at hc
      | some rr =>
        obtain ⟨r1, hr1⟩ := rr
        simp only [h1, Option.some.injEq] at hc
        subst hc
        have hres := hC.res f args' _ h1
        refine Called.mono (hC.run f args' [] _ h1 [] w (lone φk) vals (lone_sim Sk) (pureAs_lone hp hargs)) ?_
        rintro e w2 ⟨v, φ1, rfl, T1, S1, R1⟩
        have he : ∀ i, lone φk i = none := fun i => rfl
        split
        · rename_i hflat
          rw [Bool.and_eq_true] at hflat
          exact ⟨v, joinφ φ φ1 h.length, rfl, join_tr S he T1, join_sim S he T1 S1 hres.2 (.inl hflat.2), join_repR rfl hres.1 (.inl hflat.1) R1⟩
        · have hlen := (killAll_length ks h).symm
          have hout : ∀ b, b < w2.heap.size → φ1.out b → (joinφ φk φ1 (killAll h ks).length).out b := by
            intro b _ hb
            have hfr : ¬ (φk.fr b ∨ ∃ i, φk i = some b) := by
              have := hb.2
              rw [T1.fr] at this
              exact this
            refine ⟨fun i => ?_, fun hc => hfr (.inl hc)⟩
            rcases Nat.lt_or_ge i (killAll h ks).length with hi | hi
            · rw [join_lt _ _ hi]; exact fun e => hfr (.inr ⟨i, e⟩)
            · rw [join_ge _ _ hi]; exact hb.1 _
          refine ⟨v, joinφ φk φ1 (killAll h ks).length, rfl, Tk.trans (join_tr Sk he T1), join_sim Sk he T1 S1 hres.2 (.inr hout), ?_⟩
          have := join_repR (h := killAll h ks) (N := h.length) hlen hres.1 (.inr (by rw [hlen]; exact hout)) R1
          rw [hlen] at this ⊢
          exact this
    · refine Called.mono (hC.run f args' _ r hc bs w φk vals Sk hargs) ?_
      rintro e w2 ⟨v, φ1, rfl, T1, S1, R1⟩
      exact ⟨v, φ1, rfl, Tk.trans T1, S1, R1⟩
end
end Go.Proofs.Ytckjogpdnkocbaa.Den
namespace Go.Proofs.Ytckjogpdnkocbaa.Den

section
variable {P : Program} {w w' : World} {φ φ' : Phi} {h h' : Heap} {B B' : Nat} {bs : List Nat} {env : Env} {nt : Nat} {act : Act}

/-- Rows are written over in place. -/
theorem write_rows_ok (S : Sim bs w φ h) {b ver sz o : Nat} {rows new : List (List A)} {news : List Value} (hxb : h[b]? = some (.vec ver sz rows)) (hR : RowsL w φ h sz new news) (hst : ∀ v, v ∈ news → (∀ cs, v ≠ .agg cs) ∧ ∀ cs, v ≠ .tuple cs)
    (hle0 : o + new.length ≤ rows.length) (hpos : 0 < rows.length) :
    ∃ k w', φ b = some k ∧ (storeCells ⟨k, o * sz, none⟩ news).run P w = .ok () w' ∧ Tr w φ h w' φ (h.set b (.vec ver sz (rows.take o ++ new ++ rows.drop (o + new.length)))) ∧ Sim bs w' φ (h.set b (.vec ver sz (rows.take o ++ new ++ rows.drop (o + new.length)))) := by
  rcases S.blk h.length (.inl rfl) b _ (idx_lt hxb) hxb with ⟨a1, a2, _⟩ | ⟨k, et, fz, cells, a1, a2, a3, a4, a5, a6⟩
  · rw [a2] at hpos; simp at hpos
  have hnl := hR.1
  have hle : (o + new.length) * sz ≤ rows.length * sz := Nat.mul_le_mul_right _ hle0
  have hmul : (o + new.length) * sz = o * sz + news.length := by rw [hnl, Nat.add_mul]
  have hrun := storeCells_ok (P := P) k news (o * sz) 0 w cells et fz a2 a3 (by omega) hst
  have hss : (setVals cells.toList (o * sz + 0) news).toArray.size = cells.size := by simp [setVals_length]
  have hrl : (rows.take o ++ new ++ rows.drop (o + new.length)).length = rows.length := by simp; omega
  have hxx : (∃ c1 c2, (Blk.vec ver sz rows) = .var c1 ∧ (Blk.vec ver sz (rows.take o ++ new ++ rows.drop (o + new.length))) = .var c2) ∨ ∃ v1 v2 s1 s2 rs1 rs2, (Blk.vec ver sz rows) = .vec v1 s1 rs1 ∧ (Blk.vec ver sz (rows.take o ++ new ++ rows.drop (o + new.length))) = .vec v2 s2 rs2 ∧ v1 ≤ v2 ∧ (v1 = v2 → s1 = s2 ∧ rs1.length = rs2.length) :=
    .inr ⟨_, _, _, _, _, _, rfl, rfl, Nat.le_refl _, fun _ => ⟨rfl, hrl.symm⟩⟩
  have T := put_tr S hxb a1 (cells' := (setVals cells.toList (o * sz + 0) news).toArray) a2 hss hxx
  refine ⟨k, _, a1, hrun, T, put_sim S hxb a1 a2 hss hxx ?_⟩
  intro B hB hlt
  refine .inr ⟨k, et, fz, _, a1, putB_same w _ (blk_lt a2), by rw [hss]; exact a3, a4, by rw [hss, hrl]; exact a5, ?_⟩
  have hall := vec_vals a5 a6
  have h1 := hall.take o
  have h2 := hall.drop (o + new.length)
  have h3 := ((h1.append hR).append h2).tr T
  intro i' row' hi'
  have := h3.vec (rest := cells.toList.drop (rows.length * sz)) i' row' hi'
  have e : (setVals cells.toList (o * sz + 0) news).toArray.toList = (cells.toList.take (rows.length * sz)).take (o * sz) ++ news ++ (cells.toList.take (rows.length * sz)).drop ((o + new.length) * sz) ++ cells.toList.drop (rows.length * sz) := by
    rw [Nat.add_zero, List.toList_toArray, setVals_append _ _ _ (by simp; omega), hmul, List.take_take, Nat.min_eq_left (by omega)]
    rw [List.append_assoc (_ ++ news)]
    congr 1
    conv => lhs; rw [← List.take_append_drop (rows.length * sz) cells.toList]
    rw [List.drop_append_of_le_length (by simp; omega)]
  rw [e]; exact this

theorem zeroRowsL {i : TypeInfo} {d : TypeDesc} {n : Nat} {z : Value} (hz : i.zero = some z) (hl : z.cells.toList.length = i.size) {zs : List (List A)} (hzs : zeroRows (tiOf i d) n = some zs) :
    RowsL w φ h i.size zs (Builtin.zeroCells z.cells n).toList ∧ zs.length = n := by
  have e : (tiOf i d).zero = some z.cells.toList := by simp [tiOf, hz]
  simp only [zeroRows, e, Option.map_some, Option.some.injEq] at hzs
  subst hzs
  rw [zeroCells_list]
  exact ⟨zero_rowsL z i.size hl n, by simp⟩

theorem clearA_ok (S : Sim bs w φ h) {t e : TypeId} {te : TI} (htu : P.underlying t = some (.slice e)) (hte : tab P e = some te) {x : A} {r : A × Heap} (hc : clearA te h x = some r) {v : Value} (hx : Rep w φ h h.length x v) (ty : TypeId) :
    Goes P (Builtin.clear_ #[t] ty #[v]) bs w φ h r := by
  obtain ⟨i, d, hi, hd, rfl⟩ := tab_inv hte
  unfold clearA at hc
  split at hc
  case h_2 => exact absurd hc (by simp)
  rename_i b ver off n
  cases hxb : h[b]? with
  | none => simp [hxb] at hc
  | some blk =>
    cases blk with
    | dead => simp [hxb] at hc
    | var => simp [hxb] at hc
    | vec ver' sz rows =>
      simp only [hxb] at hc
      split at hc
      case isFalse => exact absurd hc (by simp)
      case isTrue e0 =>
      subst e0
      cases hx with
      | own _ _ _ _ _ ao c hb hnc ho =>
        split at hc
        · rename_i hn0
          subst hn0
          injection hc with hc; subst hc
          refine Goes.same S (v := .tuple #[]) ?_ (.tup _ _ _ (.nil _))
          unfold Builtin.clear_
          refine (run_step (run_underlying htu w)).trans ?_
          cases ao <;> rfl
        · rename_i hn0
          split at hc
          case isFalse => exact absurd hc (by simp)
          case isTrue hcnd =>
          obtain ⟨hsz, hz⟩ := hcnd
          obtain ⟨z, z1, z2, z3⟩ := zero_any hz
          split at hc
          · rename_i zs hzs
            split at hc
            case isFalse => exact absurd hc (by simp)
            case isTrue hso =>
            injection hc with hc; subst hc
            obtain ⟨hR, hzl⟩ := zeroRowsL (w := w) (φ := φ) (h := h) z1 z2 hzs
            obtain ⟨o1, o2, o3, o4⟩ := ho.now _ _ hxb
            have hsz' : sz = i.size := hsz
            subst hsz'
            have hst : ∀ v, v ∈ (Builtin.zeroCells z.cells n).toList → (∀ cs, v ≠ .agg cs) ∧ ∀ cs, v ≠ .tuple cs := rows_stor hso hR
            obtain ⟨k, w', hk, hrun, T, S'⟩ := write_rows_ok (P := P) S hxb hR hst (o := off) (by omega) (by omega)
            obtain ⟨hao, _⟩ := o4 k hk
            have hao' : ao = some ⟨k, off * i.size, none⟩ := by rcases hao with e | e; exact e; omega
            subst hao'
            rw [hzl] at T S'
            refine ⟨.tuple #[], w', φ, ?_, T, S', .tup _ _ _ (.nil _)⟩
            unfold Builtin.clear_
            refine (run_step (run_underlying htu w)).trans ?_
            obtain ⟨m, rfl⟩ : ∃ m, n = m + 1 := ⟨n - 1, by omega⟩
            show ((do storeCells ⟨k, off * i.size, none⟩ (Builtin.zeroCells (← zeroValue e).cells (m + 1)).toList; pure (Value.tuple #[])) : Sem Value).run P w = _
            refine (run_step (zeroValue_run hi z1)).trans ?_
            exact run_step hrun
          · exact absurd hc (by simp)
end
end Go.Proofs.Ytckjogpdnkocbaa.Den
namespace Go.Proofs.Ytckjogpdnkocbaa.Den

section
variable {P : Program} {cfg : Cfg} {C : CallFn} {w w' : World} {φ φ' : Phi} {h h' : Heap} {B B' base : Nat} {bs : List Nat} {env : Env} {nt : Nat} {act : Act}

/-- An operation is carried out. -/
def OpGoes (P : Program) (m : Sem Next) (bs : List Nat) (w : World) (φ : Phi) (h : Heap) (r : A × Heap) : Prop :=
  (∃ v w' φ', m.run P w = .ok (.value v) w' ∧ Tr w φ h w' φ' r.2 ∧ Sim bs w' φ' r.2 ∧ Rep w' φ' r.2 r.2.length r.1 v) ∨
  (r.1 = .undef ∧ ∃ w' φ', m.run P w = .ok .skip w' ∧ Tr w φ h w' φ' r.2 ∧ Sim bs w' φ' r.2) ∨
  ∃ f args, m.run P w = .ok (.enter f args) w ∧ Calls P f args w (Rets bs w φ h r)

theorem Goes.op {m : Sem Value} {r : A × Heap} (G : Goes P m bs w φ h r) : OpGoes P (do pure (.value (← m))) bs w φ h r := by
  obtain ⟨v, w', φ', a, b, c, d⟩ := G
  exact .inl ⟨v, w', φ', run_step a, b, c, d⟩

theorem same_op (S : Sim bs w φ h) {m : Sem Value} {a : A} (hm : ∃ z, m.run P w = .ok z w ∧ Rep w φ h h.length a z) : OpGoes P (do pure (.value (← m))) bs w φ h (a, h) := by
  obtain ⟨z, e, hr⟩ := hm
  exact (Goes.same S e hr).op

theorem evNs_ok (nt : Nat) : ∀ (xs : List Operand) {h : Heap}, RelE w φ h nt env act → Sim bs w φ h → Tr w φ h w φ (evNs env xs h).2 ∧ Sim bs w φ (evNs env xs h).2 ∧
    RepL w φ (evNs env xs h).2 (evNs env xs h).2.length (evNs env xs h).1 (xs.map act.eval)
  | [], _, _, S => ⟨Tr.refl _ _ _, S, .nil _⟩
  | x :: xs, h, R, S => by
    obtain ⟨T1, S1, R1⟩ := R.evN S x
    obtain ⟨T2, S2, R2⟩ := evNs_ok nt xs (R.tr T1) S1
    exact ⟨T1.trans T2, S2, .cons _ _ _ _ _ (R1.tr T2 (Nat.le_refl _) T2.len) R2⟩

theorem Called.op {h0 : Heap} {f : FuncId} {args : Array Value} {r : A × Heap} {m : Sem Next} (T : Tr w φ h0 w φ h) (hc : Called P f args w (Rets bs w φ h r)) (hm : m.run P w = (callFunc f args).run P w) : OpGoes P m bs w φ h0 r := by
  rcases hc with ⟨h1, h2⟩ | ⟨v, w', h1, v2, φ', e, a, b, c⟩
  · refine .inr (.inr ⟨f, args, hm.trans h1, Calls.mono h2 ?_⟩)
    rintro e w2 ⟨v, φ2, rfl, a, b, c⟩
    exact ⟨v, φ2, rfl, T.trans a, b, c⟩
  · injection e with e; subst e
    exact .inl ⟨v, w', φ', hm.trans h1, T.trans a, b, c⟩

theorem maxL_ok : ∀ {as : List A} {a c : A} {v : Value} {vs : List Value}, foldA maxA a as = some c → Rep w φ h B a v → RepL w φ h B as vs → ∃ z, (vs.foldlM Builtin.max2 v).run P w = .ok z w ∧ Rep w φ h B c z
  | [], a, c, v, _, hc, ha, hr => by
    cases hr
    simp only [foldA, Option.some.injEq] at hc; subst hc
    exact ⟨v, rfl, ha⟩
  | b :: as, a, c, v, _, hc, ha, hr => by
    cases hr with
    | cons _ _ _ u us hb hr =>
      simp only [foldA] at hc
      cases h1 : maxA a b with
      | none => simp [h1] at hc
      | some d =>
        simp only [h1] at hc
        unfold maxA at h1
        split at h1
        · injection h1 with h1; subst h1
          cases ha; cases hb
          rename_i k x k2 y
          obtain ⟨z, e, hz⟩ := maxL_ok (v := .int k (if y > x then y else x)) hc (.int _ _ _) hr
          exact ⟨z, by rw [List.foldlM_cons]; exact (run_step rfl).trans e, hz⟩
        · exact absurd h1 (by simp)

theorem minL_ok : ∀ {as : List A} {a c : A} {v : Value} {vs : List Value}, foldA minA a as = some c → Rep w φ h B a v → RepL w φ h B as vs → ∃ z, (vs.foldlM Builtin.min2 v).run P w = .ok z w ∧ Rep w φ h B c z
  | [], a, c, v, _, hc, ha, hr => by
    cases hr
    simp only [foldA, Option.some.injEq] at hc; subst hc
    exact ⟨v, rfl, ha⟩
  | b :: as, a, c, v, _, hc, ha, hr => by
    cases hr with
    | cons _ _ _ u us hb hr =>
      simp only [foldA] at hc
      cases h1 : minA a b with
      | none => simp [h1] at hc
      | some d =>
        simp only [h1] at hc
        unfold minA at h1
        split at h1
        · injection h1 with h1; subst h1
          cases ha; cases hb
          rename_i k x k2 y
          obtain ⟨z, e, hz⟩ := minL_ok (v := .int k (if y < x then y else x)) hc (.int _ _ _) hr
          exact ⟨z, by rw [List.foldlM_cons]; exact (run_step rfl).trans e, hz⟩
        · exact absurd h1 (by simp)

theorem elem_some {t : TypeId} {ti : TI} (ht : tab P t = some ti) (he : ti.elem.isSome = true) : ∃ e, P.underlying t = some (.slice e) := by
  cases h1 : ti.elem with
  | none => simp [h1] at he
  | some e => exact ⟨e, elem_inv ht h1⟩

theorem len_ok {t : TypeId} {ti : TI} (ht : tab P t = some ti) {a : A} {n : Nat} (hn : lenA a = some n) (hl : lenTy ti a = true) {v : Value} (ha : Rep w φ h B a v) (ty : TypeId) :
    (Builtin.len_ #[t] ty #[v]).run P w = .ok (.int .i64 n) w := by
  obtain ⟨i, d, hi, hd, rfl⟩ := tab_inv ht
  unfold Builtin.len_
  cases ha with
  | str _ s =>
    have := isStr_d hl; subst this
    simp only [lenA, Option.some.injEq] at hn; subst hn
    refine (run_step (run_underlying hd w)).trans ?_
    simp [goInt, ByteArray.size, Sem.run_pure]
  | sl0 _ ao c =>
    obtain ⟨e, he⟩ := elem_some ht hl
    simp only [lenA, Option.some.injEq] at hn; subst hn
    exact (run_step (run_underlying he w)).trans rfl
  | sl1 _ row rows b off sz c hc hb hφ hr =>
    obtain ⟨e, he⟩ := elem_some ht hl
    simp only [lenA, Option.some.injEq] at hn; subst hn
    exact (run_step (run_underlying he w)).trans rfl
  | own _ b ver off n ao c hb hnc ho =>
    obtain ⟨e, he⟩ := elem_some ht hl
    simp only [lenA, Option.some.injEq] at hn; subst hn
    exact (run_step (run_underlying he w)).trans rfl
  | _ => simp [lenA] at hn

theorem cap_ok (S : Sim bs w φ h) {t : TypeId} {ti : TI} (ht : tab P t = some ti) (he : ti.elem.isSome = true) {a : A} {n : Int} (hn : capA h a = some n) {v : Value} (ha : Rep w φ h h.length a v) (ty : TypeId) :
    (Builtin.cap_ #[t] ty #[v]).run P w = .ok (.int .i64 n) w := by
  obtain ⟨e, he⟩ := elem_some ht he
  unfold capA at hn
  split at hn
  · rename_i b ver off m
    cases hx : h[b]? with
    | none => simp [hx] at hn
    | some x =>
      cases x with
      | dead => simp [hx] at hn
      | var => simp [hx] at hn
      | vec ver' sz rows =>
        simp only [hx] at hn
        split at hn
        · rename_i hc
          obtain ⟨rfl, rfl⟩ := hc
          injection hn with hn; subst hn
          cases ha with
          | own _ _ _ _ _ ao c hb hnc ho =>
            have hbk := S.blk h.length (.inl rfl) b _ hb hx
            have hc0 : c = 0 := by
              rcases hbk with ⟨a1, a2, a3⟩ | ⟨k, et, fz, cells, a1, a2, a3, a4, a5, a6⟩
              · exact (ho.now _ _ hx).2.2.1 a1
              · omega
            subst hc0
            unfold Builtin.cap_
            exact (run_step (run_underlying he w)).trans rfl
        · exact absurd hn (by simp)
  · exact absurd hn (by simp)

theorem builtin_val {m : Sem Value} {b : Builtin} {tys : Array TypeId} {ty : TypeId} {cs : Array Bool} {args : Array Value} {r : A × Heap} (hb : builtin b tys ty cs args = (do pure (.value (← m)))) (G : Goes P m bs w φ h r) :
    OpGoes P (builtin b tys ty cs args) bs w φ h r := by rw [hb]; exact G.op

theorem builtinA_ok (S : Sim bs w φ h) {b : Builtin} {tys : Array TypeId} {as : List A} {r : A × Heap} (hs : builtinA P b tys.toList as h = some r) {vs : List Value} (hr : RepL w φ h h.length as vs) (ty : TypeId) (cs : Array Bool) :
    OpGoes P (builtin b tys ty cs vs.toArray) bs w φ h r := by
  obtain ⟨tys⟩ := tys
  unfold builtinA at hs
  split at hs
  · rename_i t x htl
    cases h1 : tab P t with
    | none => simp [h1] at hs
    | some ti =>
      cases h2 : lenA x with
      | none => simp [h1, h2] at hs
      | some n =>
        simp only [h1, h2] at hs
        split at hs
        · rename_i hl
          injection hs with hs; subst hs
          cases hr with
          | cons _ _ _ v us ha hr =>
            cases hr
            simp only at htl
            subst htl
            exact builtin_val rfl (Goes.same S (len_ok h1 h2 hl ha ty) (.int _ _ _))
        · exact absurd hs (by simp)
  · rename_i t x htl
    cases h1 : tab P t with
    | none => simp [h1] at hs
    | some ti =>
      cases h2 : capA h x with
      | none => simp [h1, h2] at hs
      | some n =>
        simp only [h1, h2] at hs
        split at hs
        · rename_i hl
          injection hs with hs; subst hs
          cases hr with
          | cons _ _ _ v us ha hr =>
            cases hr
            simp only at htl
            subst htl
            exact builtin_val rfl (Goes.same S (cap_ok S h1 hl h2 ha ty) (.int _ _ _))
        · exact absurd hs (by simp)
  · rename_i t u x y htl
    cases h1 : tab P t with
    | none => simp [h1] at hs
    | some ti =>
      cases h2 : tab P u with
      | none => simp [h1, h2] at hs
      | some tu =>
        simp only [h1, h2] at hs
        cases h3 : ti.elem with
        | none => simp [h3] at hs
        | some e =>
          simp only [h3] at hs
          cases h4 : tab P e with
          | none => simp [h4] at hs
          | some te =>
            simp only [h4] at hs
            cases hr with
            | cons _ _ _ v us ha hr =>
              cases hr with
              | cons _ _ _ v2 us hb hr =>
                cases hr
                simp only at htl
                subst htl
                exact builtin_val rfl (appendA_ok S h1 h2 h3 h4 ty hs ha hb)
  · rename_i t x htl
    cases h1 : tab P t with
    | none => simp [h1] at hs
    | some ti =>
      simp only [h1] at hs
      cases h3 : ti.elem with
      | none => simp [h3] at hs
      | some e =>
        simp only [h3] at hs
        cases h4 : tab P e with
        | none => simp [h4] at hs
        | some te =>
          simp only [h4] at hs
          cases hr with
          | cons _ _ _ v us ha hr =>
            cases hr
            simp only at htl
            subst htl
            exact builtin_val rfl (clearA_ok S (elem_inv h1 h3) h4 hs ha ty)
  · rename_i a as2
    cases h1 : foldA maxA a as2 with
    | none => simp [h1, withH] at hs
    | some c =>
      simp only [h1, withH, Option.some.injEq] at hs; subst hs
      cases hr with
      | cons _ _ _ v us ha hr =>
        obtain ⟨z, e, hz⟩ := maxL_ok (P := P) h1 ha hr
        refine builtin_val rfl (Goes.same S (v := z) ?_ hz)
        exact e
  · rename_i a as2
    cases h1 : foldA minA a as2 with
    | none => simp [h1, withH] at hs
    | some c =>
      simp only [h1, withH, Option.some.injEq] at hs; subst hs
      cases hr with
      | cons _ _ _ v us ha hr =>
        obtain ⟨z, e, hz⟩ := minL_ok (P := P) h1 ha hr
        refine builtin_val rfl (Goes.same S (v := z) ?_ hz)
        exact e
  · exact absurd hs (by simp)
end
end Go.Proofs.Ytckjogpdnkocbaa.Den
namespace Go.Proofs.Ytckjogpdnkocbaa.Den

section
variable {P : Program} {cfg : Cfg} {C : CallFn} {w w' : World} {φ φ' : Phi} {h h' : Heap} {B B' base : Nat} {bs : List Nat} {env : Env} {nt : Nat} {act : Act}

theorem withH_inv {x : Option A} {h : Heap} {r : A × Heap} (hw : withH x h = some r) : ∃ a, x = some a ∧ r = (a, h) := by
  cases x with
  | none => simp [withH] at hw
  | some a => simp only [withH, Option.some.injEq] at hw; exact ⟨a, rfl, hw.symm⟩

theorem op_ok (hC : CallOk P C) (hbs : ∀ B, B ∈ bs → B ≤ base) (R : RelE w φ h nt env act) (S : Sim bs w φ h) {o : Oper} {r : A × Heap} (hs : stepOp P cfg C base o.op env h = some r) :
    OpGoes P (execOp act.eval o) bs w φ h r := by
  obtain ⟨dst, op, type, pos, after, guard⟩ := o
  simp only at hs
  cases op with
  | move x =>
    simp only [stepOp, Option.some.injEq] at hs; subst hs
    obtain ⟨T, S1, R1⟩ := R.evN S x
    exact .inl ⟨_, w, φ, rfl, T, S1, R1⟩
  | assign x =>
    simp only [stepOp, Option.some.injEq] at hs; subst hs
    obtain ⟨T, S1, R1⟩ := R.evN S x
    exact .inl ⟨_, w, φ, rfl, T, S1, R1⟩
  | pick c a b =>
    simp only [stepOp] at hs
    have hc := R.ev c
    cases he : ev env c with
    | bool t =>
      simp only [he, Option.some.injEq] at hs; subst hs
      rw [he] at hc
      generalize hcv : act.eval c = cv at hc
      cases hc
      have e : (execOp act.eval ⟨dst, .pick c a b, type, pos, after, guard⟩).run P w = .ok (.value (if t = true then act.eval a else act.eval b)) w := by
        show (do pure (Next.value (if ← asBool (act.eval c) then act.eval a else act.eval b)) : Sem Next).run P w = _
        rw [hcv]
        rfl
      refine .inl ⟨_, w, φ, e, Tr.refl _ _ _, S, ?_⟩
      cases t
      · exact R.ev b
      · exact R.ev a
    | _ => simp [he] at hs
  | alloc e =>
    simp only [stepOp] at hs
    cases ht : tab P e with
    | none => simp [ht] at hs
    | some ti =>
      simp only [ht] at hs
      cases hz : ti.zero with
      | none => simp [hz] at hs
      | some z =>
        simp only [hz, Option.some.injEq] at hs; subst hs
        exact (alloc_ok S ht hz).op
  | box e x =>
    simp only [stepOp] at hs
    split at hs
    · exact absurd hs (by simp)
    · rename_i hu
      injection hs with hs; subst hs
      obtain ⟨T, S1, R1⟩ := R.evN S x
      exact (Goes.after T (box_ok S1 (by simpa using hu) R1)).op
  | build t parts =>
    obtain ⟨parts⟩ := parts
    simp only [stepOp] at hs
    cases ht : tab P t with
    | none => simp [ht] at hs
    | some ti =>
      simp only [ht] at hs
      cases hz : ti.zero with
      | none => simp [hz] at hs
      | some z =>
        simp only [hz] at hs
        split at hs
        case isFalse => exact absurd hs (by simp)
        case isTrue hcnd =>
        split at hs
        · rename_i cs hb
          injection hs with hs; subst hs
          have := build_ok R S ht hz hcnd.1 hcnd.2 hb
          have G := this.op
          have e : (execOp act.eval ⟨dst, .build t ⟨parts⟩, type, pos, after, guard⟩) = (do pure (Next.value (← Instr.build t (parts.map fun x => (x.1, act.eval x.2)).toArray))) := by
            show (do pure (Next.value (← Instr.build t ((⟨parts⟩ : Array _).map fun (i, x) => (i, act.eval x))))) = _
            simp
          rw [e]; exact G
        · exact absurd hs (by simp)
  | buildSlice t len parts =>
    obtain ⟨parts⟩ := parts
    simp only [stepOp] at hs
    cases ht : tab P t with
    | none => simp [ht] at hs
    | some ti =>
      simp only [ht] at hs
      cases he : ti.elem with
      | none => simp [he] at hs
      | some e =>
        simp only [he] at hs
        cases hte : tab P e with
        | none => simp [hte] at hs
        | some te =>
          simp only [hte] at hs
          split at hs
          case isFalse => exact absurd hs (by simp)
          case isTrue hcnd =>
          obtain ⟨c1, c2, c3, c4⟩ := hcnd
          split at hs
          · rename_i rows h2 hrows
            injection hs with hs; subst hs
            obtain ⟨i, d, hi, hd, rfl⟩ := tab_inv hte
            obtain ⟨T, S1, R1⟩ := evParts_ok (act := act) nt parts R S
            have := buildSlice_ok S1 (elem_inv ht he) hi R1 (by simpa using c1) c2 c3 c4 hrows
            have G := (Goes.after T this).op
            have e : (execOp act.eval ⟨dst, .buildSlice t len ⟨parts⟩, type, pos, after, guard⟩) = (do pure (Next.value (← Instr.buildSlice t len (parts.map fun x => (x.1, act.eval x.2)).toArray))) := by
              show (do pure (Next.value (← Instr.buildSlice t len ((⟨parts⟩ : Array _).map fun (i, x) => (i, act.eval x))))) = _
              simp
            rw [e]; exact G
          · exact absurd hs (by simp)
  | load t x =>
    simp only [stepOp] at hs
    cases ht : tab P t with
    | none => simp [ht] at hs
    | some ti =>
      simp only [ht] at hs
      obtain ⟨a, h1, rfl⟩ := withH_inv hs
      exact (loadAt_ok S ht (R.ev x) h1).op
  | store t p x =>
    simp only [stepOp] at hs
    cases ht : tab P t with
    | none => simp [ht] at hs
    | some ti =>
      simp only [ht] at hs
      split at hs
      · rename_i h2 hst
        injection hs with hs; subst hs
        obtain ⟨T, S1, R1⟩ := R.evN S x
        obtain ⟨w2, φ2, e, T2, S2⟩ := storeAt_ok S1 hbs ht ((R.ev p).tr T (Nat.le_refl _) T.len) R1 hst
        exact .inr (.inl ⟨rfl, w2, φ2, run_step e, T.trans T2, S2⟩)
      · exact absurd hs (by simp)
  | nilCheck x =>
    simp only [stepOp] at hs
    split at hs
    · rename_i hn
      injection hs with hs; subst hs
      exact .inl ⟨_, w, φ, nilOk_ok rfl hn (R.ev x), Tr.refl _ _ _, S, R.ev x⟩
    · exact absurd hs (by simp)
  | binOp op t x y u =>
    simp only [stepOp] at hs
    split at hs
    · rename_i c hb
      injection hs with hs; subst hs
      obtain ⟨v, e, hv, hg⟩ := binA_ok (P := P) (t := t) hb (R.ev x) (R.ev y)
      refine same_op S (m := do eqGuard op t x y (act.eval x) (act.eval y); binOp op t (act.eval x) (act.eval y)) ⟨v, ?_, hv⟩
      rw [hg]; exact e
    · obtain ⟨a, h1, rfl⟩ := withH_inv hs
      exact same_op S (eqA_ok h1 (R.ev x) (R.ev y))
  | unOp op t x =>
    simp only [stepOp] at hs
    obtain ⟨a, h1, rfl⟩ := withH_inv hs
    exact same_op S (unA_ok h1 (R.ev x))
  | convert s d x =>
    simp only [stepOp] at hs
    split at hs
    · rename_i ts td h1 h2
      exact (convA_ok S h1 h2 hs (R.ev x)).op
    · exact absurd hs (by simp)
  | makeFunc fn first caps =>
    obtain ⟨caps⟩ := caps
    cases fn with
    | func f =>
      simp only [stepOp] at hs
      split at hs
      · rename_i h0
        injection hs with hs; subst hs
        have hf : first = #[] := Array.eq_empty_of_size_eq_zero h0
        subst hf
        refine same_op S (m := Instr.makeFunc (.func f) ((#[] : Array Operand).map act.eval) ((⟨caps⟩ : Array Operand).map act.eval)) ⟨.func (.func f) #[] (caps.map act.eval).toArray, ?_, .fn _ _ _ _ (R.evL caps)⟩
        simp [Instr.makeFunc, Sem.run_pure]
      · exact absurd hs (by simp)
    | _ => simp [stepOp] at hs
  | makeSlice t l c =>
    simp only [stepOp] at hs
    cases ht : tab P t with
    | none => simp [ht] at hs
    | some ti =>
      simp only [ht] at hs
      cases he : ti.elem with
      | none => simp [he] at hs
      | some e =>
        simp only [he] at hs
        cases hte : tab P e with
        | none => simp [hte] at hs
        | some te =>
          simp only [hte] at hs
          split at hs
          · rename_i l' c' hl hc
            split at hs
            case isFalse => exact absurd hs (by simp)
            case isTrue hcnd =>
            obtain ⟨c1, c2, c3, c4, c5, c6⟩ := hcnd
            split at hs
            · rename_i rows hrows
              injection hs with hs; subst hs
              obtain ⟨i, d, hi, hd, rfl⟩ := tab_inv hte
              have h1 := R.ev l
              have h2 := R.ev c
              rw [hl] at h1; rw [hc] at h2
              have e1 : act.eval l = .int .i64 l' := by
                generalize act.eval l = v at h1
                cases h1; rfl
              have e2 : act.eval c = .int .i64 c' := by
                generalize act.eval c = v at h2
                cases h2; rfl
              have G := (makeSlice_ok S (elem_inv ht he) hi c1 c2 c3 c4 c5 c6 hrows).op
              rw [← e1, ← e2] at G
              exact G
            · exact absurd hs (by simp)
          · exact absurd hs (by simp)
  | slice t x lo hi mx =>
    simp only [stepOp] at hs
    split at hs
    · rename_i l r2 m h1 h2 h3
      obtain ⟨a, h4, rfl⟩ := withH_inv hs
      exact same_op S (sliceA_ok R S h1 h2 h3 h4 (R.ev x))
    · exact absurd hs (by simp)
  | fieldAddr t x i =>
    simp only [stepOp] at hs
    cases hf : fldOff P t i with
    | none => simp [hf] at hs
    | some o =>
      simp only [hf] at hs
      split at hs
      · rename_i hsz
        obtain ⟨a, h4, rfl⟩ := withH_inv hs
        exact same_op S (fieldAddr_ok hf hsz h4 (R.ev x))
      · exact absurd hs (by simp)
  | field t x i =>
    simp only [stepOp] at hs
    cases hf : fldOff P t i with
    | none => simp [hf] at hs
    | some o =>
      simp only [hf] at hs
      split at hs
      · rename_i ti cs hti hx
        obtain ⟨a, h4, rfl⟩ := withH_inv hs
        have h1 := R.ev x
        rw [hx] at h1
        exact same_op S (field_ok hf hti h4 h1)
      · exact absurd hs (by simp)
  | indexAddr t x i =>
    simp only [stepOp] at hs
    split at hs
    · rename_i size k n hsz hi
      obtain ⟨a, h4, rfl⟩ := withH_inv hs
      have h1 := R.ev i
      rw [hi] at h1
      have e1 : act.eval i = .int k n := by
        generalize act.eval i = v at h1
        cases h1; rfl
      have := indexA_ok (k := k) hsz h4 (R.ev x)
      rw [← e1] at this
      exact same_op S this
    · exact absurd hs (by simp)
  | index t x i =>
    simp only [stepOp] at hs
    split at hs
    · rename_i s k n hx hi
      split at hs
      · rename_i hcnd
        split at hs
        · rename_i c hc
          injection hs with hs; subst hs
          have h1 := R.ev i
          rw [hi] at h1
          have e1 : act.eval i = .int k n := by
            generalize act.eval i = v at h1
            cases h1; rfl
          have h2 := R.ev x
          rw [hx] at h2
          have e2 : act.eval x = .string ⟨s.toArray⟩ := by
            generalize act.eval x = v at h2
            cases h2; rfl
          have := str_index_ok (P := P) (w := w) (k := k) (isStr_inv hcnd.2) hcnd.1 hc
          rw [← e1, ← e2] at this
          exact same_op S ⟨_, this, .int _ _ _⟩
        · exact absurd hs (by simp)
      · exact absurd hs (by simp)
    · exact absurd hs (by simp)
  | extract x i =>
    simp only [stepOp] at hs
    split at hs
    · rename_i vs hx
      obtain ⟨a, h4, rfl⟩ := withH_inv hs
      have h2 := R.ev x
      rw [hx] at h2
      exact same_op S (extract_ok h4 h2)
    · exact absurd hs (by simp)
  | call c =>
    obtain ⟨callee, args, argTypes⟩ := c
    obtain ⟨args⟩ := args
    cases callee with
    | builtin b =>
      simp only [stepOp] at hs
      have e : ∃ cs, (execOp act.eval ⟨dst, .call ⟨.builtin b, ⟨args⟩, argTypes⟩, type, pos, after, guard⟩) = builtin b argTypes type cs (args.map act.eval).toArray := by
        refine ⟨(⟨args⟩ : Array Operand).map fun | .const _ => true | _ => false, ?_⟩
        simp only [execOp, resolve, List.map_toArray, pure_bind]
        rfl
      obtain ⟨cs, e⟩ := e
      rw [e]
      exact builtinA_ok S hs (R.evL args) type cs
    | value f =>
      simp only [stepOp] at hs
      have hf := R.ev f
      split at hs
      · rename_i g caps hg
        rw [hg] at hf
        obtain ⟨vs, hfv, hcaps⟩ : ∃ vs, act.eval f = .func (.func g) #[] vs.toArray ∧ RepL w φ h h.length caps vs := by
          generalize act.eval f = v at hf
          cases hf with
          | fn _ _ _ vs hl => exact ⟨vs, rfl, hl⟩
        have e : (execOp act.eval ⟨dst, .call ⟨.value f, ⟨args⟩, argTypes⟩, type, pos, after, guard⟩).run P w = (callFunc g (args.map act.eval ++ vs).toArray).run P w := by
          simp [execOp, resolve, hfv, Deferred.ofValue, invoke]
        split at hs
        · obtain ⟨T, S1, R1⟩ := evNs_ok (act := act) nt args R S
          exact Called.op T (hC.run _ _ _ _ hs bs w φ _ S1 (R1.append (hcaps.tr T (Nat.le_refl _) T.len))) e
        · exact Called.op (Tr.refl _ _ _) (callA_ok hC S hs ((R.evL args).append hcaps)) e
      · exact absurd hs (by simp)
    | invoke recv m => simp [stepOp] at hs
  | _ => simp [stepOp] at hs
end
end Go.Proofs.Ytckjogpdnkocbaa.Den
namespace Go.Proofs.Ytckjogpdnkocbaa.Den

section
variable {P : Program} {cfg : Cfg} {C : CallFn} {w w' : World} {φ φ' : Phi} {h h' : Heap} {B B' base : Nat} {bs : List Nat} {env : Env} {nt : Nat} {act : Act}

mutual
theorem Rep.cut {N : Nat} (hN : ∀ b, b < N → h'[b]? = h[b]? ∧ φ' b = φ b) (hout : ∀ b, b < w.heap.size → φ.out b → φ'.out b) : ∀ {B B' : Nat} {a : A} {v : Value}, B ≤ N → B ≤ B' → Rep w φ h B a v → Rep w φ' h' B' a v
  | _, _, _, _, _, _, .undef _ v => .undef _ v
  | _, _, _, _, _, _, .bool _ b => .bool _ b
  | _, _, _, _, _, _, .int _ k n => .int _ k n
  | _, _, _, _, _, _, .str _ s => .str _ s
  | _, _, _, _, _, _, .nilp _ => .nilp _
  | _, _, _, _, _, _, .nilif _ => .nilif _
  | _, _, _, _, _, _, .errv _ t u => .errv _ t u
  | _, _, _, _, _, _, .sl0 _ ao c => .sl0 _ ao c
  | _, _, _, _, _, _, .sl1 _ row rows b off sz c hc hb hφ hr => .sl1 _ row rows b off sz c hc hb (hout b hb hφ) (RepRows.re hout hr)
  | _, _, _, _, hB, hB', .own _ b ver off n ao c hb hn ho => .own _ b ver off n ao c (Nat.lt_of_lt_of_le hb hB') hn
      ⟨fun ver' sz rows hh => ho.le ver' sz rows (by rw [← (hN b (Nat.lt_of_lt_of_le hb hB)).1]; exact hh), fun sz rows hh => by
        rw [(hN b (Nat.lt_of_lt_of_le hb hB)).2]
        exact ho.now sz rows (by rw [← (hN b (Nat.lt_of_lt_of_le hb hB)).1]; exact hh)⟩
  | _, _, _, _, hB, hB', .agg _ cs vs hl => .agg _ cs vs (RepL.cut hN hout hB hB' hl)
  | _, _, _, _, hB, hB', .tup _ cs vs hl => .tup _ cs vs (RepL.cut hN hout hB hB' hl)
  | _, _, _, _, hB, hB', .ptr _ b j k hb hv hk => .ptr _ b j k (Nat.lt_of_lt_of_le hb hB') (by
      obtain ⟨cs, hc⟩ := hv
      exact ⟨cs, by rw [(hN b (Nat.lt_of_lt_of_le hb hB)).1]; exact hc⟩) (by rw [(hN b (Nat.lt_of_lt_of_le hb hB)).2]; exact hk)
  | _, _, _, _, hB, hB', .vptr _ b ver i j p hb hp => .vptr _ b ver i j p (Nat.lt_of_lt_of_le hb hB')
      ⟨hp.spot, fun ver' sz rows hh => hp.le ver' sz rows (by rw [← (hN b (Nat.lt_of_lt_of_le hb hB)).1]; exact hh), fun sz rows hh => by
        rw [(hN b (Nat.lt_of_lt_of_le hb hB)).2]
        exact hp.now sz rows (by rw [← (hN b (Nat.lt_of_lt_of_le hb hB)).1]; exact hh)⟩
  | _, _, _, _, _, _, .eptr _ row j b off hb hφ hr => .eptr _ row j b off hb (hout b hb hφ) (RepCells.re hout hr)
  | _, _, _, _, hB, hB', .fn _ f caps vs hl => .fn _ f caps vs (RepL.cut hN hout hB hB' hl)
theorem RepL.cut {N : Nat} (hN : ∀ b, b < N → h'[b]? = h[b]? ∧ φ' b = φ b) (hout : ∀ b, b < w.heap.size → φ.out b → φ'.out b) : ∀ {B B' : Nat} {as : List A} {vs : List Value}, B ≤ N → B ≤ B' → RepL w φ h B as vs → RepL w φ' h' B' as vs
  | _, _, _, _, _, _, .nil _ => .nil _
  | _, _, _, _, hB, hB', .cons _ a as v vs ha hr => .cons _ a as v vs (Rep.cut hN hout hB hB' ha) (RepL.cut hN hout hB hB' hr)
end

/-- What is left of the blocks when a call ends: those that were there, and those that are given back. -/
def retφ (φ : Phi) (base : Nat) (mv : List Nat) : Phi := ⟨fun i => if i < base then φ i else (mv[i - base]?).bind φ.f, φ.fr⟩
theorem retφ_lt (φ : Phi) {base i : Nat} (mv : List Nat) (hi : i < base) : retφ φ base mv i = φ i := by
  show (if i < base then φ i else (mv[i - base]?).bind φ.f) = _
  rw [if_pos hi]
theorem retφ_ge (φ : Phi) {base i : Nat} (mv : List Nat) (hi : base ≤ i) : retφ φ base mv i = (mv[i - base]?).bind φ.f := by
  show (if i < base then φ i else (mv[i - base]?).bind φ.f) = _
  rw [if_neg (by omega)]
theorem retφ_out (base : Nat) (mv : List Nat) (b : Nat) (hb : φ.out b) : (retφ φ base mv).out b := by
  refine ⟨fun i => ?_, hb.2⟩
  rcases Nat.lt_or_ge i base with hi | hi
  · rw [retφ_lt _ _ hi]; exact hb.1 i
  · rw [retφ_ge _ _ hi]
    cases hm : mv[i - base]? with
    | none => simp
    | some c => exact hb.1 c

/-- The blocks that are given back so far. -/
structure Moved (w : World) (φ : Phi) (h : Heap) (base : Nat) (hc new : Heap) (mv : List Nat) : Prop where
  len : mv.length = new.length
  heap : hc.length = h.length ∧ ∀ (b : Nat) (x : Blk), hc[b]? = some x → h[b]? = some x ∨ (b ∈ mv ∧ x = Blk.dead)
  low : ∀ b, b < base → hc[b]? = h[b]?
  ge : ∀ b, b ∈ mv → base ≤ b ∧ b < h.length ∧ hc[b]? = some Blk.dead
  nd : mv.Nodup
  ok : ∀ (j b : Nat), mv[j]? = some b → ∃ sz rows, new[j]? = some (Blk.vec 0 sz rows) ∧ ((φ b = none ∧ rows = [] ∧ sz = 0) ∨ VecOk w φ h b sz rows)

theorem Moved.start : Moved w φ h base h [] [] :=
  ⟨rfl, ⟨rfl, fun b x hx => .inl hx⟩, fun b _ => rfl, fun b hb => by simp at hb, List.nodup_nil, fun j b hj => by simp at hj⟩

/-- What is given back stands for 'v', whatever else is given back. -/
def Given (own : Bool) (w : World) (φ : Phi) (h : Heap) (base : Nat) (mv : List Nat) (new : Heap) (a : A) (v : Value) : Prop :=
  ∀ (mv2 : List Nat) (new2 hf : Heap), (own = false → mv ++ mv2 = []) → new.length = mv.length → (∀ b, b < base → hf[b]? = h[b]?) → (∀ (j : Nat) x, (new ++ new2)[j]? = some x → hf[base + j]? = some x) → hf.length = base + (new ++ new2).length →
    Rep w (retφ φ base (mv ++ mv2)) hf hf.length a v

theorem Given.more {own : Bool} {mv : List Nat} {new : Heap} {a : A} {v : Value} {mv1 : List Nat} {new1 : Heap} (hl : new1.length = mv1.length) (hg : Given own w φ h base mv new a v) : Given own w φ h base (mv ++ mv1) (new ++ new1) a v := by
  intro mv2 new2 hf h0 h1 h2 h3 h4
  have := hg (mv1 ++ mv2) (new1 ++ new2) hf (by simpa using h0) (by simp at h1; omega) h2 (by simpa using h3) (by simpa using h4)
  simpa using this

theorem pure1_zero {a : A} (hp : pure1 a = true) {v : Value} (hr : Rep w φ h B a v) : Rep w φ h 0 a v := by
  cases hr with
  | undef => simp [pure1] at hp
  | bool => exact .bool _ _
  | int => exact .int _ _ _
  | str => exact .str _ _
  | nilp => exact .nilp _
  | nilif => exact .nilif _
  | errv => exact .errv _ _ _
  | sl0 _ ao c => exact .sl0 _ ao c
  | sl1 _ row rows b off sz c hc hb hφ hr => exact .sl1 _ row rows b off sz c hc hb hφ hr
  | own => simp [pure1] at hp
  | agg => simp [pure1] at hp
  | tup => simp [pure1] at hp
  | ptr => simp [pure1] at hp
  | vptr => simp [pure1] at hp
  | eptr => simp [pure1] at hp
  | fn _ _ caps _ hl =>
    cases caps with
    | nil => cases hl; exact .fn _ _ _ _ (.nil _)
    | cons => simp [pure1] at hp

theorem given_zero {own : Bool} {mv : List Nat} {new : Heap} {a : A} {v : Value} (hr : Rep w φ h 0 a v) : Given own w φ h base mv new a v := by
  intro mv2 new2 hf _ _ _ _ _
  exact hr.cut (N := 0) (fun b hb => absurd hb (Nat.not_lt_zero _)) (fun b _ hb => retφ_out base _ b hb) (Nat.le_refl _) (Nat.zero_le _)

theorem given_low {own : Bool} {mv : List Nat} {new : Heap} {a : A} {v : Value} (hl : low1 base a = true) (hr : Rep w φ h B a v) : Given own w φ h base mv new a v := by
  intro mv2 new2 hf _ _ h2 _ h4
  exact (low1_rep a hl hr).cut (N := base) (fun b hb => ⟨h2 b hb, retφ_lt _ _ hb⟩) (fun b _ hb => retφ_out base _ b hb) (Nat.le_refl _) (by omega)

theorem ret1_ok {own : Bool} (S : Sim bs w φ h) {hc new hc1 new1 : Heap} {mv : List Nat} (M : Moved w φ h base hc new mv) (hno : own = false → new = []) {a a' : A} (hs : ret1 own base hc new a = some (a', hc1, new1)) {v : Value} (hr : Rep w φ h h.length a v) :
    ∃ mv1 n1, new1 = new ++ n1 ∧ Moved w φ h base hc1 new1 (mv ++ mv1) ∧ (own = false → new1 = []) ∧ Given own w φ h base (mv ++ mv1) new1 a' v := by
  unfold ret1 at hs
  split at hs
  · rename_i b ver off n
    split at hs
    · rename_i hb
      simp only [Option.some.injEq, Prod.mk.injEq] at hs
      obtain ⟨rfl, rfl, rfl⟩ := hs
      refine ⟨[], [], by simp, by simpa using M, hno, ?_⟩
      rw [List.append_nil]
      exact given_low (B := h.length) (by simp [low1, hb]) hr
    · rename_i hb
      cases hx : hc[b]? with
      | none => simp [hx] at hs
      | some x =>
        cases x with
        | dead => simp [hx] at hs
        | var => simp [hx] at hs
        | vec ver' sz rows =>
          simp only [hx] at hs
          have hx0 : h[b]? = some (.vec ver' sz rows) := by
            rcases M.heap.2 b _ hx with e | ⟨_, e⟩
            · exact e
            · exact absurd e (by simp)
          split at hs
          case isFalse => exact absurd hs (by simp)
          case isTrue e =>
          subst e
          have hnm : b ∉ mv := fun hm => by
            have := (M.ge b hm).2.2
            rw [hx] at this
            exact absurd this (by simp)
          cases hr with
          | own _ _ _ _ _ ao c hbl hnc ho =>
            split at hs
            · rename_i ho2
              simp only [Option.some.injEq, Prod.mk.injEq] at hs
              obtain ⟨rfl, rfl, rfl⟩ := hs
              obtain ⟨o1, o2, o3, o4⟩ := ho.now _ _ hx0
              refine ⟨[b], [.vec 0 sz (rows.take (off + n))], rfl, ⟨by simp [M.len], ⟨by simp [M.heap.1], fun c x hcx => ?_⟩, fun c hcb => ?_, fun c hcm => ?_, ?_, fun j c hj => ?_⟩, fun e => absurd e (by simp [ho2]), ?_⟩
              · rcases set_get hcx with ⟨hne, e⟩ | ⟨e1, e2, _⟩
                · rcases M.heap.2 c x e with e | ⟨e1, e2⟩
                  · exact .inl e
                  · exact .inr ⟨by simp [e1], e2⟩
                · exact .inr ⟨by simp [e1], e2⟩
              · rw [List.getElem?_set_ne (by omega)]; exact M.low c hcb
              · rcases List.mem_append.1 hcm with e | e
                · obtain ⟨g1, g2, g3⟩ := M.ge c e
                  refine ⟨g1, g2, ?_⟩
                  by_cases hcb : b = c
                  · exact absurd (hcb ▸ e) hnm
                  · rw [List.getElem?_set_ne hcb]; exact g3
                · rw [List.mem_singleton] at e; subst e
                  exact ⟨by omega, hbl, by rw [List.getElem?_set_self (by rw [M.heap.1]; exact hbl)]⟩
              · rw [List.nodup_append]
                refine ⟨M.nd, by simp, fun c hc d hd e => ?_⟩
                rw [List.mem_singleton] at hd
                exact hnm (hd ▸ e ▸ hc)
              · rcases Nat.lt_or_ge j mv.length with hjl | hjl
                · rw [List.getElem?_append_left hjl] at hj
                  obtain ⟨s2, r2, e, hok⟩ := M.ok j c hj
                  exact ⟨s2, r2, by rw [List.getElem?_append_left (by rw [← M.len]; exact hjl)]; exact e, hok⟩
                · rw [List.getElem?_append_right hjl] at hj
                  have hj0 : j = mv.length := by
                    have := (List.getElem?_eq_some_iff.1 hj).1
                    simp at this; omega
                  subst hj0
                  simp at hj; subst hj
                  refine ⟨sz, rows.take (off + n), by rw [List.getElem?_append_right (by rw [M.len]; exact Nat.le_refl _)]; simp [M.len], ?_⟩
                  rcases S.blk h.length (.inl rfl) _ _ hbl hx0 with ⟨a1, a2, a3⟩ | ⟨k, et, fz, cells, a1, a2, a3, a4, a5, a6⟩
                  · exact .inl ⟨a1, by rw [a2]; simp, a3⟩
                  · refine .inr ⟨k, et, fz, cells, a1, a2, a3, a4, Nat.le_trans (Nat.mul_le_mul_right _ (by rw [List.length_take]; omega)) a5, fun i row hi => a6 i row ?_⟩
                    rw [List.getElem?_take] at hi
                    split at hi
                    · exact hi
                    · exact absurd hi (by simp)
              · intro mv2 new2 hf _ h1 h2 h3 h4
                have hget : hf[base + new.length]? = some (.vec 0 sz (rows.take (off + n))) := by
                  apply h3
                  rw [List.append_assoc, List.getElem?_append_right (Nat.le_refl _)]
                  simp
                have hφ : retφ φ base (mv ++ [b] ++ mv2) (base + new.length) = φ b := by
                  rw [retφ_ge _ _ (by omega)]
                  have : (mv ++ [b] ++ mv2)[base + new.length - base]? = some b := by
                    rw [show base + new.length - base = mv.length by rw [M.len]; omega, List.append_assoc, List.getElem?_append_right (Nat.le_refl _)]
                    simp
                  rw [this]; rfl
                refine .own _ _ _ _ _ _ _ (by rw [h4]; simp only [List.length_append, List.length_cons, List.length_nil]; omega) hnc ⟨fun ver' s2 r2 hh => Nat.zero_le _, fun s2 r2 hh => ?_⟩
                rw [hget] at hh
                injection hh with hh; injection hh with _ e1 e2
                subst e1; subst e2
                rw [hφ]
                exact ⟨by rw [List.length_take]; omega, by rw [List.length_take]; omega, o3, o4⟩
            · rename_i ho2
              simp only [Option.some.injEq, Prod.mk.injEq] at hs
              obtain ⟨rfl, rfl, rfl⟩ := hs
              have hnew := hno (by simpa using ho2)
              subst hnew
              have hmv : mv = [] := List.eq_nil_of_length_eq_zero M.len
              subst hmv
              refine ⟨[], [], rfl, M, hno, ?_⟩
              have hnv : ∀ cs, h[b]? ≠ some (Blk.var cs) := by intro cs hcs; rw [hx0] at hcs; exact absurd hcs (by simp)
              have hfro := own_frozen (B2 := 0) S hx0 hbl hnc ho (kill_tr (w := w) (φ := φ) hnv) (fun k hk => ⟨rfl, fun i hi => by
                by_cases e : i = b
                · subst e; rw [upd_same] at hi; exact absurd hi (by simp)
                · rw [upd_ne _ _ e] at hi; exact e (S.inj i b k hi hk)⟩)
              intro mv2 new2 hf h0 h1 h2 h3 h4
              have hmv2 := h0 (by simpa using ho2)
              rw [hmv2]
              refine Rep.cut (φ := upd φ b none) (φ' := retφ φ base []) (h' := hf) (N := 0) (fun b hb => absurd hb (Nat.not_lt_zero _)) (fun k _ hk => ⟨fun i => ?_, hk.2⟩) (Nat.le_refl _) (Nat.zero_le _) hfro
              rcases Nat.lt_or_ge i base with hi | hi
              · rw [retφ_lt _ _ hi]
                have := hk.1 i
                rwa [upd_ne _ _ (by omega)] at this
              · rw [retφ_ge _ _ hi]; simp
  · rename_i b j
    split at hs
    · rename_i hb
      simp only [Option.some.injEq, Prod.mk.injEq] at hs
      obtain ⟨rfl, rfl, rfl⟩ := hs
      refine ⟨[], [], by simp, by simpa using M, hno, ?_⟩
      rw [List.append_nil]
      exact given_low (B := h.length) (by simp [low1, hb]) hr
    · exact absurd hs (by simp)
  · split at hs
    · rename_i hp
      simp only [Option.some.injEq, Prod.mk.injEq] at hs
      obtain ⟨rfl, rfl, rfl⟩ := hs
      refine ⟨[], [], by simp, by simpa using M, hno, ?_⟩
      exact given_zero (pure1_zero hp hr)
    · exact absurd hs (by simp)
end
end Go.Proofs.Ytckjogpdnkocbaa.Den
namespace Go.Proofs.Ytckjogpdnkocbaa.Den

section
variable {P : Program} {cfg : Cfg} {C : CallFn} {w w' : World} {φ φ' : Phi} {h h' : Heap} {B B' base : Nat} {bs : List Nat} {env : Env} {nt : Nat} {act : Act}

def GivenL (own : Bool) (w : World) (φ : Phi) (h : Heap) (base : Nat) (mv : List Nat) (new : Heap) (as : List A) (vs : List Value) : Prop :=
  ∀ (mv2 : List Nat) (new2 hf : Heap), (own = false → mv ++ mv2 = []) → new.length = mv.length → (∀ b, b < base → hf[b]? = h[b]?) → (∀ (j : Nat) x, (new ++ new2)[j]? = some x → hf[base + j]? = some x) → hf.length = base + (new ++ new2).length →
    RepL w (retφ φ base (mv ++ mv2)) hf hf.length as vs

theorem GivenL.cons {own : Bool} {mv : List Nat} {new : Heap} {a : A} {v : Value} {as : List A} {vs : List Value} (h1 : Given own w φ h base mv new a v) (h2 : GivenL own w φ h base mv new as vs) : GivenL own w φ h base mv new (a :: as) (v :: vs) :=
  fun mv2 new2 hf a b c d e => .cons _ _ _ _ _ (h1 mv2 new2 hf a b c d e) (h2 mv2 new2 hf a b c d e)

theorem retL_ok {own : Bool} (S : Sim bs w φ h) : ∀ {as as' : List A} {hc new hc1 new1 : Heap} {mv : List Nat} (_ : Moved w φ h base hc new mv) (_ : own = false → new = []) (_ : retL own base hc new as = some (as', hc1, new1)) {vs : List Value} (_ : RepL w φ h h.length as vs),
    ∃ mv1 n1, new1 = new ++ n1 ∧ Moved w φ h base hc1 new1 (mv ++ mv1) ∧ (own = false → new1 = []) ∧ GivenL own w φ h base (mv ++ mv1) new1 as' vs
  | [], _, hc, new, _, _, mv, M, hno, hs, _, hr => by
    cases hr
    simp only [retL, Option.some.injEq, Prod.mk.injEq] at hs
    obtain ⟨rfl, rfl, rfl⟩ := hs
    exact ⟨[], [], by simp, by simpa using M, hno, fun _ _ _ _ _ _ _ _ => .nil _⟩
  | a :: as, _, hc, new, _, _, mv, M, hno, hs, _, hr => by
    cases hr with
    | cons _ _ _ v vs ha hr =>
      simp only [retL] at hs
      cases h1 : ret1 own base hc new a with
      | none => simp [h1] at hs
      | some p =>
        obtain ⟨a1, hc1, new1⟩ := p
        simp only [h1] at hs
        cases h2 : retL own base hc1 new1 as with
        | none => simp [h2] at hs
        | some q =>
          obtain ⟨as1, hc2, new2⟩ := q
          simp only [h2, Option.some.injEq, Prod.mk.injEq] at hs
          obtain ⟨rfl, rfl, rfl⟩ := hs
          obtain ⟨mv1, n1, e1, M1, hno1, G1⟩ := ret1_ok S M hno h1 ha
          obtain ⟨mv2, n2, e2, M2, hno2, G2⟩ := retL_ok S M1 hno1 h2 hr
          refine ⟨mv1 ++ mv2, n1 ++ n2, by rw [e2, e1]; simp, by rw [← List.append_assoc]; exact M2, hno2, ?_⟩
          rw [← List.append_assoc]
          refine GivenL.cons ?_ G2
          rw [e2]
          refine Given.more ?_ G1
          have l1 := M1.len; have l2 := M2.len
          rw [e2] at l2
          simp only [List.length_append] at l1 l2
          omega

theorem retA_ok {own : Bool} (S : Sim bs w φ h) {hc new hc1 new1 : Heap} {mv : List Nat} (M : Moved w φ h base hc new mv) (hno : own = false → new = []) {a a' : A} (hs : retA own base hc new a = some (a', hc1, new1)) {v : Value} (hr : Rep w φ h h.length a v) :
    ∃ mv1 n1, new1 = new ++ n1 ∧ Moved w φ h base hc1 new1 (mv ++ mv1) ∧ (own = false → new1 = []) ∧ Given own w φ h base (mv ++ mv1) new1 a' v := by
  unfold retA at hs
  split at hs
  · rename_i cs
    cases h1 : retL own base hc new cs with
    | none => simp [h1] at hs
    | some p =>
      obtain ⟨cs', hc2, new2⟩ := p
      simp only [h1, Option.some.injEq, Prod.mk.injEq] at hs
      obtain ⟨rfl, rfl, rfl⟩ := hs
      cases hr with
      | agg _ _ vs hl =>
        obtain ⟨mv1, n1, e1, M1, hno1, G1⟩ := retL_ok S M hno h1 hl
        exact ⟨mv1, n1, e1, M1, hno1, fun mv2 new2 hf a b c d e => .agg _ _ _ (G1 mv2 new2 hf a b c d e)⟩
  · exact ret1_ok S M hno hs hr

theorem retAs_ok {own : Bool} (S : Sim bs w φ h) : ∀ {as as' : List A} {hc new hc1 new1 : Heap} {mv : List Nat} (_ : Moved w φ h base hc new mv) (_ : own = false → new = []) (_ : retAs own base hc new as = some (as', hc1, new1)) {vs : List Value} (_ : RepL w φ h h.length as vs),
    ∃ mv1 n1, new1 = new ++ n1 ∧ Moved w φ h base hc1 new1 (mv ++ mv1) ∧ (own = false → new1 = []) ∧ GivenL own w φ h base (mv ++ mv1) new1 as' vs
  | [], _, hc, new, _, _, mv, M, hno, hs, _, hr => by
    cases hr
    simp only [retAs, Option.some.injEq, Prod.mk.injEq] at hs
    obtain ⟨rfl, rfl, rfl⟩ := hs
    exact ⟨[], [], by simp, by simpa using M, hno, fun _ _ _ _ _ _ _ _ => .nil _⟩
  | a :: as, _, hc, new, _, _, mv, M, hno, hs, _, hr => by
    cases hr with
    | cons _ _ _ v vs ha hr =>
      simp only [retAs] at hs
      cases h1 : retA own base hc new a with
      | none => simp [h1] at hs
      | some p =>
        obtain ⟨a1, hc1, new1⟩ := p
        simp only [h1] at hs
        cases h2 : retAs own base hc1 new1 as with
        | none => simp [h2] at hs
        | some q =>
          obtain ⟨as1, hc2, new2⟩ := q
          simp only [h2, Option.some.injEq, Prod.mk.injEq] at hs
          obtain ⟨rfl, rfl, rfl⟩ := hs
          obtain ⟨mv1, n1, e1, M1, hno1, G1⟩ := retA_ok S M hno h1 ha
          obtain ⟨mv2, n2, e2, M2, hno2, G2⟩ := retAs_ok S M1 hno1 h2 hr
          refine ⟨mv1 ++ mv2, n1 ++ n2, by rw [e2, e1]; simp, by rw [← List.append_assoc]; exact M2, hno2, ?_⟩
          rw [← List.append_assoc]
          refine GivenL.cons ?_ G2
          rw [e2]
          refine Given.more ?_ G1
          have l1 := M1.len; have l2 := M2.len
          rw [e2] at l2
          simp only [List.length_append] at l1 l2
          omega

theorem ret_low {hc : Heap} (new : Heap) (hle : base ≤ hc.length) {b : Nat} (hb : b < base) : (hc.take base ++ new)[b]? = hc[b]? := by
  rw [List.getElem?_append_left (by rw [List.length_take]; omega), List.getElem?_take_of_lt hb]
theorem ret_high {hc : Heap} (new : Heap) (hle : base ≤ hc.length) (j : Nat) : (hc.take base ++ new)[base + j]? = new[j]? := by
  rw [List.getElem?_append_right (by rw [List.length_take]; omega)]
  congr 1; rw [List.length_take]; omega
theorem ret_len {hc : Heap} (new : Heap) (hle : base ≤ hc.length) : (hc.take base ++ new).length = base + new.length := by
  rw [List.length_append, List.length_take]; omega

/-- The end of a call. -/
theorem ret_fin {own : Bool} {w0 : World} {φ0 : Phi} {h0 : Heap} (S0 : Sim bs w0 φ0 h0) (T : Tr w0 φ0 h0 w φ h) (S : Sim (h0.length :: bs) w φ h) {as as' : List A} {hc new : Heap}
    (hs : retAs own h0.length h [] as = some (as', hc, new)) {vs : List Value} (hr : RepL w φ h h.length as vs) :
    ∃ φ', Tr w0 φ0 h0 w φ' (hc.take h0.length ++ new) ∧ Sim bs w φ' (hc.take h0.length ++ new) ∧ RepL w φ' (hc.take h0.length ++ new) (hc.take h0.length ++ new).length as' vs := by
  obtain ⟨mv, n1, e1, M, hno, G⟩ := retAs_ok S Moved.start (fun _ => rfl) hs hr
  rw [List.nil_append] at e1 M G
  have hle : h0.length ≤ hc.length := by rw [M.heap.1]; exact S.bnd _ (by simp)
  have hlow : ∀ b, b < h0.length → (hc.take h0.length ++ new)[b]? = h[b]? := fun b hb => by rw [ret_low new hle hb]; exact M.low b hb
  have hrep := G [] [] (hc.take h0.length ++ new) (fun e => by
      have := hno e
      have l := M.len
      rw [this] at l
      simp at l
      rw [l]; rfl) M.len.symm hlow (fun j x hx => by rw [ret_high new hle]; simpa using hx) (by rw [ret_len new hle]; simp)
  rw [List.append_nil] at hrep
  have hout : ∀ b, b < w.heap.size → φ.out b → (retφ φ h0.length mv).out b := fun b _ hb => retφ_out _ _ b hb
  have T2 : Tr w0 φ0 h0 w (retφ φ h0.length mv) (hc.take h0.length ++ new) := by
    refine ⟨T.os, T.tape, T.output, T.size, by rw [ret_len new hle]; omega, fun k hk hk2 => ⟨(T.keep k hk hk2).1, fun i => ?_⟩, fun b cs hb => ?_, fun b hb ver sz rows hh => ?_, T.fr⟩
    · have := (T.keep k hk hk2).2
      rcases Nat.lt_or_ge i h0.length with hi | hi
      · rw [retφ_lt _ _ hi]; exact this i
      · rw [retφ_ge _ _ hi]
        cases hm : mv[i - h0.length]? with
        | none => simp
        | some c => exact this c
    · obtain ⟨⟨cs', h1⟩, h2⟩ := T.var b cs hb
      have hlt := idx_lt hb
      exact ⟨⟨cs', by rw [hlow b hlt]; exact h1⟩, (retφ_lt _ _ hlt).trans h2⟩
    · rw [hlow b hb] at hh
      rw [retφ_lt _ _ hb]
      exact T.vec b hb ver sz rows hh
  refine ⟨retφ φ h0.length mv, T2, ?_, hrep⟩
  have hmv : ∀ i k, h0.length ≤ i → retφ φ h0.length mv i = some k → ∃ b, mv[i - h0.length]? = some b ∧ φ b = some k := by
    intro i k hi hk
    rw [retφ_ge _ _ hi] at hk
    cases hm : mv[i - h0.length]? with
    | none => rw [hm] at hk; exact absurd hk (by simp)
    | some c => rw [hm] at hk; exact ⟨c, rfl, hk⟩
  refine ⟨?_, ?_, fun B hB => Nat.le_trans (S0.bnd B hB) T2.len, ?_, S.frd, ?_⟩
  · intro i j k hi hj
    rcases Nat.lt_or_ge i h0.length with h1 | h1 <;> rcases Nat.lt_or_ge j h0.length with h2 | h2
    · rw [retφ_lt _ _ h1] at hi; rw [retφ_lt _ _ h2] at hj; exact S.inj i j k hi hj
    · rw [retφ_lt _ _ h1] at hi
      obtain ⟨b, hb, hbk⟩ := hmv j k h2 hj
      have := (M.ge b (List.mem_of_getElem? hb)).1
      have := S.inj i b k hi hbk
      omega
    · rw [retφ_lt _ _ h2] at hj
      obtain ⟨b, hb, hbk⟩ := hmv i k h1 hi
      have := (M.ge b (List.mem_of_getElem? hb)).1
      have := S.inj j b k hj hbk
      omega
    · obtain ⟨b, hb, hbk⟩ := hmv i k h1 hi
      obtain ⟨c, hc2, hck⟩ := hmv j k h2 hj
      have := S.inj b c k hbk hck
      subst this
      have hi2 := (List.getElem?_eq_some_iff.1 hb)
      have hj2 := (List.getElem?_eq_some_iff.1 hc2)
      obtain ⟨hi3, hi4⟩ := hi2
      obtain ⟨hj3, hj4⟩ := hj2
      have := (List.getElem_inj M.nd).1 (hi4.trans hj4.symm)
      omega
  · intro i k hi
    rcases Nat.lt_or_ge i h0.length with h1 | h1
    · rw [retφ_lt _ _ h1] at hi
      exact ⟨by rw [ret_len new hle]; omega, (S.dom i k hi).2⟩
    · obtain ⟨b, hb, hbk⟩ := hmv i k h1 hi
      have := (List.getElem?_eq_some_iff.1 hb).1
      rw [M.len] at this
      exact ⟨by rw [ret_len new hle]; omega, (S.dom b k hbk).2⟩
  · intro i k hi
    rcases Nat.lt_or_ge i h0.length with h1 | h1
    · rw [retφ_lt _ _ h1] at hi; exact S.frn i k hi
    · obtain ⟨b, hb, hbk⟩ := hmv i k h1 hi
      exact S.frn b k hbk
  · intro B hB b x hb hx
    rcases Nat.lt_or_ge b h0.length with h1 | h1
    · rw [hlow b h1] at hx
      obtain ⟨B0, hB0, hB1, hB2, hB3⟩ : ∃ B0, B0 ∈ (h0.length :: bs) ∧ b < B0 ∧ B0 ≤ h0.length ∧ B0 ≤ B := by
        rcases hB with e | hB
        · exact ⟨h0.length, by simp, h1, Nat.le_refl _, by rw [e, ret_len new hle]; omega⟩
        · exact ⟨B, by simp [hB], hb, S0.bnd B hB, Nat.le_refl _⟩
      have := S.blk B0 (.inr hB0) b x hB1 hx
      have hcut : ∀ c, c < h0.length → (hc.take h0.length ++ new)[c]? = h[c]? ∧ retφ φ h0.length mv c = φ c := fun c hc => ⟨hlow c hc, retφ_lt _ _ hc⟩
      cases x with
      | dead => exact (retφ_lt _ _ h1).trans this
      | var cs =>
        obtain ⟨k, et, fz, cells, a1, a2, a3, a4⟩ := this
        exact ⟨k, et, fz, cells, (retφ_lt _ _ h1).trans a1, a2, a3, a4.cut hcut hout hB2 hB3⟩
      | vec ver sz rows =>
        rcases this with ⟨a1, a2, a3⟩ | ⟨k, et, fz, cells, a1, a2, a3, a4, a5, a6⟩
        · exact .inl ⟨(retφ_lt _ _ h1).trans a1, a2, a3⟩
        · exact .inr ⟨k, et, fz, cells, (retφ_lt _ _ h1).trans a1, a2, a3, a4, a5, fun i row hi => ⟨(a6 i row hi).1, RepL.re hout (a6 i row hi).2⟩⟩
    · have hx2 : new[b - h0.length]? = some x := by
        rw [← ret_high new hle (b - h0.length), show h0.length + (b - h0.length) = b by omega]; exact hx
      have hlt : b - h0.length < mv.length := by rw [M.len]; exact idx_lt hx2
      have hmvb : mv[b - h0.length]? = some mv[b - h0.length] := List.getElem?_eq_getElem hlt
      obtain ⟨sz, rows, e, hok⟩ := M.ok _ _ hmvb
      rw [hx2] at e
      injection e with e; subst e
      have hφ : retφ φ h0.length mv b = φ mv[b - h0.length] := by rw [retφ_ge _ _ h1, hmvb]; rfl
      rcases hok with ⟨a1, a2, a3⟩ | ⟨k, et, fz, cells, a1, a2, a3, a4, a5, a6⟩
      · exact .inl ⟨hφ.trans a1, a2, a3⟩
      · exact .inr ⟨k, et, fz, cells, hφ.trans a1, a2, a3, a4, a5, fun i row hi => ⟨(a6 i row hi).1, RepL.re hout (a6 i row hi).2⟩⟩
end
end Go.Proofs.Ytckjogpdnkocbaa.Den
namespace Go.Proofs.Ytckjogpdnkocbaa.Den

section
variable {P : Program} {cfg : Cfg} {C : CallFn} {w w' : World} {φ φ' : Phi} {h h' : Heap} {B B' base : Nat} {bs : List Nat} {env : Env} {nt : Nat} {act : Act}

theorem loadAt_inv (S : Sim bs w φ h) {t : TypeId} {ti : TI} (ht : tab P t = some ti) {p a : A} {u : Value} (hp : Rep w φ h h.length p u) (hl : loadAt ti.agg ti.size h p = some a) :
    ∃ ad v, u = .pointer (some ad) ∧ (loadVar t ad).run P w = .ok v w ∧ Rep w φ h h.length a v := by
  cases hp with
  | ptr _ b j k hb hv hk =>
    simp only [loadAt] at hl
    cases hx : h[b]? with
    | none => simp [hx] at hl
    | some x =>
      cases x with
      | var cs =>
        simp only [hx] at hl
        obtain ⟨v, h1, h2⟩ := loadVar_ok ht (Seg.of_var S hx hk) hl
        exact ⟨_, v, rfl, by simpa using h1, h2⟩
      | dead => simp [hx] at hl
      | vec => simp [hx] at hl
  | vptr _ b ver i j p hb hp =>
    simp only [loadAt] at hl
    cases hx : h[b]? with
    | none => simp [hx] at hl
    | some x =>
      cases x with
      | vec ver' sz rows =>
        simp only [hx] at hl
        split at hl
        · rename_i e
          subst e
          cases hr : rows[i]? with
          | none => simp [hr] at hl
          | some row =>
            simp only [hr] at hl
            obtain ⟨k, hk, rfl⟩ := hp.now _ _ hx
            obtain ⟨v, h1, h2⟩ := loadVar_ok ht (Seg.of_vec S hx hk hr) hl
            exact ⟨_, v, rfl, h1, h2⟩
        · exact absurd hl (by simp)
      | dead => simp [hx] at hl
      | var => simp [hx] at hl
  | eptr _ row j b off hb hφ hr =>
    simp only [loadAt] at hl
    obtain ⟨v, h1, h2⟩ := loadVar_ok ht (Seg.of_cells hr) hl
    exact ⟨_, v, rfl, h1, h2⟩
  | _ => simp [loadAt] at hl

/-- What a result is. -/
def resSem (tmps : Array Value) : ResultVar → Sem Value
  | .tmp t => pure (tmps.getD t undef)
  | .cell a t => do loadVar t (← asAddr (tmps.getD a undef))

theorem resVals_ok (R : RelE w φ h nt env act) (S : Sim bs w φ h) : ∀ {res : List ResultVar} {as : List A}, resVals P env h res = some as →
    ∃ vs, (res.mapM (resSem act.tmps)).run P w = .ok vs w ∧ RepL w φ h h.length as vs
  | [], as, hs => by
    simp only [resVals, Option.some.injEq] at hs; subst hs
    exact ⟨[], rfl, .nil _⟩
  | .tmp t :: res, as, hs => by
    simp only [resVals] at hs
    cases h1 : resVals P env h res with
    | none => simp [h1] at hs
    | some vs =>
      simp only [h1, Option.some.injEq] at hs; subst hs
      obtain ⟨us, e, hr⟩ := resVals_ok R S h1
      refine ⟨act.tmps.getD t undef :: us, ?_, .cons _ _ _ _ _ (R.rep t) hr⟩
      rw [List.mapM_cons]
      exact (run_step (a := act.tmps.getD t undef) (w' := w) rfl).trans ((run_step e).trans rfl)
  | .cell a t :: res, as, hs => by
    simp only [resVals] at hs
    cases ht : tab P t with
    | none => simp [ht] at hs
    | some ti =>
      simp only [ht] at hs
      cases h0 : loadAt ti.agg ti.size h (get env a) with
      | none => simp [h0] at hs
      | some v =>
        cases h1 : resVals P env h res with
        | none => simp [h0, h1] at hs
        | some vs =>
          simp only [h0, h1, Option.some.injEq] at hs; subst hs
          obtain ⟨us, e, hr⟩ := resVals_ok R S h1
          obtain ⟨ad, u, e1, e2, hu⟩ := loadAt_inv S ht (R.rep a) h0
          refine ⟨u :: us, ?_, .cons _ _ _ _ _ hu hr⟩
          rw [List.mapM_cons]
          refine (run_step (a := u) (w' := w) ?_).trans ((run_step e).trans rfl)
          show (do loadVar t (← asAddr (act.tmps.getD a undef)) : Sem Value).run P w = _
          rw [e1]
          exact (run_step (a := ad) (w' := w) rfl).trans e2

theorem wrap_rep {as : List A} {vs : List Value} (hr : RepL w φ h B as vs) : Rep w φ h B (wrapRes as) (if hz : vs.toArray.size = 1 then vs.toArray[0] else .tuple vs.toArray) := by
  cases hr with
  | nil => exact .tup _ _ _ (.nil _)
  | cons _ a as v vs ha hr =>
    cases hr with
    | nil => exact ha
    | cons _ b as u vs hb hr =>
      rw [dif_neg (by simp)]
      exact .tup _ _ _ (.cons _ _ _ _ _ ha (.cons _ _ _ _ _ hb hr))

theorem results_run {fn : Func} {vs : List Value} (hv : (fn.results.toList.mapM (resSem act.tmps)).run P w = .ok vs w) :
    (results fn act.tmps).run P w = .ok (if hz : vs.toArray.size = 1 then vs.toArray[0] else .tuple vs.toArray) w := by
  unfold results
  refine (run_step (a := vs.toArray) (w' := w) ?_).trans rfl
  rw [Array.mapM_eq_mapM_toList]
  exact run_step hv

theorem guard_ok (R : RelE w φ h nt env act) {ops : Array Oper} {o : Oper} {b : Bool} (hg : guardOk ops env o.guard = some b) : Region.wanted o (yielded ops act.tmps) = b := by
  unfold Region.wanted
  cases hgo : o.guard with
  | none => rw [hgo] at hg; simp only [guardOk, Option.some.injEq] at hg; exact hg
  | some q =>
    obtain ⟨j, want⟩ := q
    rw [hgo] at hg
    simp only [guardOk] at hg
    cases hd : (ops[j]?).bind (·.dst) with
    | none => simp [hd] at hg
    | some d =>
      simp only [hd] at hg
      have hr := R.rep d
      have hnb : (∀ b, act.tmps.getD d undef ≠ .bool b) → yielded ops act.tmps j = none := by
        intro hno
        simp only [yielded, hd, Option.bind_some]
        split
        · rename_i b' hb'
          exact absurd (by simp [hb']) (hno b')
        · rfl
      cases he : get env d with
      | bool b' =>
        rw [he] at hr hg
        simp only [Option.some.injEq] at hg
        generalize hv : act.tmps.getD d undef = v at hr
        cases hr
        have : act.tmps[d]? = some (.bool b') := by
          cases ht : act.tmps[d]? with
          | none => simp [ht, undef] at hv
          | some x => simp [ht] at hv; rw [hv]
        have hy : yielded ops act.tmps j = some b' := by simp only [yielded, hd, Option.bind_some, this]
        show (yielded ops act.tmps j == some want) = b
        rw [hy, ← hg]
        cases b' <;> cases want <;> rfl
      | undef => rw [he] at hg; simp at hg
      | _ =>
        rw [he] at hr hg
        simp only [Option.some.injEq] at hg
        subst hg
        show (yielded ops act.tmps j == some want) = false
        rw [hnb (fun b hb => by rw [hb] at hr; cases hr)]
        rfl

/-- An operation, as a walk has it. -/
theorem OpGoes.wp {o : Oper} {r : A × Heap} {K : Act → World → Prop} {Q : Exit → Act → World → Prop} (G : OpGoes P (execOp act.eval o) bs w φ h r)
    (hK : ∀ v w' φ', Tr w φ h w' φ' r.2 → Sim bs w' φ' r.2 → Rep w' φ' r.2 r.2.length r.1 v → K (act.put o.dst v) w') : o.wp P act w K Q := by
  unfold Oper.wp
  rcases G with ⟨v, w', φ', e, T, S, hr⟩ | ⟨e0, w', φ', e, T, S⟩ | ⟨f, args, e, hc⟩
  · rw [e]; exact hK v w' φ' T S hr
  · rw [e]; exact hK undef w' φ' T S (by rw [e0]; exact .undef _ _)
  · rw [e]
    rw [Oper.upon_enter]
    refine Calls.mono hc ?_
    rintro e w' ⟨v, φ', rfl, T, S, hr⟩
    exact hK v w' φ' T S hr

theorem stepOps_ok (hC : CallOk P C) (hbs : ∀ B, B ∈ bs → B ≤ base) {ops : Array Oper} {Q : Exit → Act → World → Prop} : ∀ {l : List Oper} {env : Env} {h : Heap} {s : St} {act : Act} {w : World} {φ : Phi}, RelE w φ h nt env act → Sim bs w φ h → (∀ o, o ∈ l → okDst nt o.dst = true) →
    stepOps P cfg C base nt ops l env h = some s → (∀ act' w' φ', Tr w φ h w' φ' s.heap → Sim bs w' φ' s.heap → RelE w' φ' s.heap nt s.env act' → Q .normal act' w') → wpList P ops Q l act w
  | [], env, h, s, act, w, φ, R, S, _, hs, hQ => by
    simp only [stepOps, Option.some.injEq] at hs; subst hs
    exact hQ act w φ (Tr.refl _ _ _) S R
  | o :: l, env, h, s, act, w, φ, R, S, hd, hs, hQ => by
    simp only [stepOps] at hs
    cases hg : guardOk ops env o.guard with
    | none => simp [hg] at hs
    | some b =>
      have hw := guard_ok R hg
      unfold wpList
      rw [hw]
      cases b with
      | false =>
        simp only [hg] at hs
        exact stepOps_ok hC hbs (R.put (hd o (by simp)) (.undef _ undef)) S (fun o ho => hd o (by simp [ho])) hs hQ
      | true =>
        simp only [hg] at hs
        cases h1 : stepOp P cfg C base o.op env h with
        | none => simp [h1, bindS] at hs
        | some r =>
          obtain ⟨v, h2⟩ := r
          simp only [h1, bindS] at hs
          rw [if_pos rfl]
          refine .inl ((op_ok hC hbs R S h1).wp fun u w' φ' T S' hr => ?_)
          exact stepOps_ok hC hbs ((R.tr T).put (hd o (by simp)) hr) S' (fun o ho => hd o (by simp [ho])) hs fun act' w2 φ2 T2 S2 R2 => hQ act' w2 φ2 (T.trans T2) S2 R2
end
end Go.Proofs.Ytckjogpdnkocbaa.Den
namespace Go.Proofs.Ytckjogpdnkocbaa.Den

section
variable {P : Program} {cfg : Cfg} {C : CallFn} {w w' : World} {φ φ' : Phi} {h h' : Heap} {B B' base : Nat} {bs : List Nat} {env env' : Env} {nt : Nat} {act : Act} {ops : Array Oper}

def sameAt (env env' : Env) (x : Operand) : Prop := ev env x = ev env' x

theorem evN_same {x : Operand} (hx : sameAt env env' x) : evN env x h = evN env' x h := by
  cases x with
  | const v => rfl
  | tmp t => simp only [evN]; rw [hx]
  | global g => rfl
  | func f => rfl

theorem evNs_same : ∀ {xs : List Operand} {h : Heap}, (∀ x, x ∈ xs → sameAt env env' x) → evNs env xs h = evNs env' xs h
  | [], _, _ => rfl
  | x :: xs, h, hx => by
    simp only [evNs]
    rw [evN_same (hx x (by simp)), evNs_same fun y hy => hx y (by simp [hy])]

theorem evParts_same : ∀ {ps : List (Nat × Operand)} {h : Heap}, (∀ p, p ∈ ps → sameAt env env' p.2) → evParts env ps h = evParts env' ps h
  | [], _, _ => rfl
  | (i, x) :: ps, h, hx => by
    simp only [evParts]
    rw [evN_same (hx (i, x) (by simp)), evParts_same fun y hy => hx y (by simp [hy])]

theorem evL_same {xs : List Operand} (hx : ∀ x, x ∈ xs → sameAt env env' x) : xs.map (ev env) = xs.map (ev env') := List.map_congr_left fun x h => hx x h

theorem bnd_same {x : Option Operand} (hx : ∀ y, x = some y → sameAt env env' y) : bndA env x = bndA env' x := by
  cases x with
  | none => rfl
  | some y => simp only [bndA]; rw [hx y rfl]

theorem stepOp_same {op : Op} (hx : ∀ x, x ∈ op.operands.toList → sameAt env env' x) : stepOp P cfg C base op env h = stepOp P cfg C base op env' h := by
  cases op with
  | move x => simp only [stepOp]; rw [evN_same (hx x (by simp [Op.operands]))]
  | assign x => simp only [stepOp]; rw [evN_same (hx x (by simp [Op.operands]))]
  | pick c a b =>
    have h1 : ev env c = ev env' c := hx c (by simp [Op.operands])
    have h2 : ev env a = ev env' a := hx a (by simp [Op.operands])
    have h3 : ev env b = ev env' b := hx b (by simp [Op.operands])
    simp only [stepOp, h1, h2, h3]
  | alloc e => rfl
  | box e x => simp only [stepOp]; rw [evN_same (hx x (by simp [Op.operands]))]
  | build t ps =>
    have h1 : ∀ h, evParts env ps.toList h = evParts env' ps.toList h := fun h => evParts_same fun p hp => hx p.2 (by simp only [Op.operands, List.mem_map]; exact ⟨p, hp, rfl⟩)
    simp only [stepOp, h1]
  | buildSlice t n ps =>
    have h1 : ∀ h, evParts env ps.toList h = evParts env' ps.toList h := fun h => evParts_same fun p hp => hx p.2 (by simp only [Op.operands, List.mem_map]; exact ⟨p, hp, rfl⟩)
    simp only [stepOp, h1]
  | load t x =>
    have h1 : ev env x = ev env' x := hx x (by simp [Op.operands])
    simp only [stepOp, h1]
  | store t p x =>
    have h1 : ev env p = ev env' p := hx p (by simp [Op.operands])
    simp only [stepOp, h1, evN_same (hx x (by simp [Op.operands]))]
  | nilCheck x =>
    have h1 : ev env x = ev env' x := hx x (by simp [Op.operands])
    simp only [stepOp, h1]
  | binOp op t x y u =>
    have h1 : ev env x = ev env' x := hx x (by simp [Op.operands])
    have h2 : ev env y = ev env' y := hx y (by simp [Op.operands])
    simp only [stepOp, h1, h2]
  | unOp op t x =>
    have h1 : ev env x = ev env' x := hx x (by simp [Op.operands])
    simp only [stepOp, h1]
  | convert s d x =>
    have h1 : ev env x = ev env' x := hx x (by simp [Op.operands])
    simp only [stepOp, h1]
  | makeFunc fn first caps =>
    cases fn with
    | func f =>
      have h1 : caps.toList.map (ev env) = caps.toList.map (ev env') := evL_same fun x hxx => hx x (by simp [Op.operands]; exact .inr (by simpa using hxx))
      simp only [stepOp, h1]
    | _ => rfl
  | makeSlice t l c =>
    have h1 : ev env l = ev env' l := hx l (by simp [Op.operands])
    have h2 : ev env c = ev env' c := hx c (by simp [Op.operands])
    simp only [stepOp, h1, h2]
  | slice t x lo hi mx =>
    have h1 : ev env x = ev env' x := hx x (by simp [Op.operands])
    have h2 : bndA env lo = bndA env' lo := bnd_same fun y hy => hx y (by subst hy; simp [Op.operands])
    have h3 : bndA env hi = bndA env' hi := bnd_same fun y hy => hx y (by subst hy; simp [Op.operands])
    have h4 : bndA env mx = bndA env' mx := bnd_same fun y hy => hx y (by subst hy; simp [Op.operands])
    simp only [stepOp, h1, h2, h3, h4]
  | fieldAddr t x i =>
    have h1 : ev env x = ev env' x := hx x (by simp [Op.operands])
    simp only [stepOp, h1]
  | field t x i =>
    have h1 : ev env x = ev env' x := hx x (by simp [Op.operands])
    simp only [stepOp, h1]
  | indexAddr t x i =>
    have h1 : ev env x = ev env' x := hx x (by simp [Op.operands])
    have h2 : ev env i = ev env' i := hx i (by simp [Op.operands])
    simp only [stepOp, h1, h2]
  | index t x i =>
    have h1 : ev env x = ev env' x := hx x (by simp [Op.operands])
    have h2 : ev env i = ev env' i := hx i (by simp [Op.operands])
    simp only [stepOp, h1, h2]
  | extract x i =>
    have h1 : ev env x = ev env' x := hx x (by simp [Op.operands])
    simp only [stepOp, h1]
  | call c =>
    obtain ⟨callee, args, argTypes⟩ := c
    have h1 : ∀ x, x ∈ args.toList → sameAt env env' x := fun x hxx => hx x (by simp [Op.operands, Call.operands]; exact .inr (by simpa using hxx))
    cases callee with
    | builtin b => simp only [stepOp, evL_same h1]
    | value f =>
      have h2 : ev env f = ev env' f := hx f (by simp [Op.operands, Call.operands])
      simp only [stepOp, evL_same h1, h2]
      cases ev env' f with
      | fn g caps => simp only [evNs_same h1]
      | _ => rfl
    | invoke r m => rfl
  | _ => rfl

theorem same_of_looks {o : Oper} (hl : ∀ d, d ∈ o.looksAt ops → get env d = get env' d) : ∀ x, x ∈ o.op.operands.toList → sameAt env env' x := by
  intro x hx
  cases x with
  | tmp t => exact hl t (List.mem_append_left _ (List.mem_filterMap.2 ⟨.tmp t, hx, rfl⟩))
  | _ => rfl

theorem guard_same {o : Oper} (hl : ∀ d, d ∈ o.looksAt ops → get env d = get env' d) : guardOk ops env o.guard = guardOk ops env' o.guard := by
  cases hg : o.guard with
  | none => rfl
  | some q =>
    obtain ⟨j, want⟩ := q
    simp only [guardOk]
    cases hd : (ops[j]?).bind (·.dst) with
    | none => rfl
    | some d =>
      simp only []
      rw [hl d (List.mem_append_right _ (by rw [hg]; simp [hd]))]

theorem gq_same {i : Nat} (hl : ∀ o, ops[i]? = some o → ∀ d, d ∈ o.looksAt ops → get env d = get env' d) : gq P cfg base ops i env h = gq P cfg base ops i env' h := by
  unfold gq
  cases ho : ops[i]? with
  | none => rfl
  | some o =>
    simp only []
    rw [guard_same (hl o ho), stepOp_same (same_of_looks (hl o ho))]

theorem get_put_same (env : Env) (d : Nat) (a : A) : get (put env (some d) a) d = a := by simp [put, get]
theorem get_put_ne (env : Env) {d : Option Tmp} {t : Nat} (a : A) (hd : d ≠ some t) : get (put env d a) t = get env t := by
  cases d with
  | none => rfl
  | some d =>
    have : d ≠ t := fun e => hd (by rw [e])
    simp [put, get, this]

theorem looksB_iff {j : Nat} {d : Tmp} {o : Oper} (ho : ops[j]? = some o) : looksB ops j (some d) = true ↔ d ∈ o.looksAt ops := by
  simp [looksB, ho]
end
end Go.Proofs.Ytckjogpdnkocbaa.Den
namespace Go.Proofs.Ytckjogpdnkocbaa.Den

section
variable {P : Program} {cfg : Cfg} {C : CallFn} {w w' w0 : World} {φ φ' φ0 : Phi} {h h' h0 : Heap} {B B' base : Nat} {bs : List Nat} {env env' : Env} {nt : Nat} {act : Act} {ops : Array Oper} {L A : Array Bool} {js : List Nat} {pk : Nat → Option Nat}

def On (L : Array Bool) (i : Nat) : Prop := L.getD i false = true
instance (L : Array Bool) (i : Nat) : Decidable (On L i) := inferInstanceAs (Decidable (_ = _))

theorem On.lt {L : Array Bool} {i : Nat} (hi : On L i) : i < L.size := by
  rcases Nat.lt_or_ge i L.size with h | h
  · exact h
  · simp [On, Array.getElem?_eq_none h] at hi

theorem on_set {L : Array Bool} {i j : Nat} (hi : i < L.size) : On (L.setIfInBounds i true) j ↔ j = i ∨ On L j := by
  unfold On
  by_cases hij : i = j
  · subst hij
    simp [hi]
  · simp only [Array.getD_eq_getD_getElem?, Array.getElem?_setIfInBounds_ne hij]
    exact ⟨.inr, fun h => h.resolve_left fun e => hij e.symm⟩

theorem not_on {L : Array Bool} {i : Nat} (hi : i < L.size) : ¬ On L i ↔ L.getD i true = false := by
  unfold On
  simp [hi]

theorem after_iff {i j : Nat} {o : Oper} (ho : ops[i]? = some o) : afterB ops i j = true ↔ ∃ e, e ∈ o.after ∧ Region.binds .any e = true ∧ e.on = j := by
  simp only [afterB, ho, Array.any_eq_true]
  constructor
  · rintro ⟨k, hk, hb⟩
    rw [Bool.and_eq_true] at hb
    exact ⟨_, Array.getElem_mem hk, hb.1, Nat.eq_of_beq_eq_true hb.2⟩
  · rintro ⟨e, he, hb, rfl⟩
    obtain ⟨k, hk, rfl⟩ := Array.mem_iff_getElem.1 he
    exact ⟨k, hk, by rw [hb]; simp⟩

theorem ready_iff {j : Nat} (hs : L.size = ops.size) : j ∈ Region.ready .any ops L ↔ j < ops.size ∧ ¬ On L j ∧ ∀ i, afterB ops j i = true → On L i := by
  rw [mem_ready]
  constructor
  · rintro ⟨h0, o, ho, hall⟩
    have hlt : j < ops.size := (Array.getElem?_eq_some_iff.1 ho).1
    refine ⟨hlt, (not_on (by omega)).2 h0, fun i hi => ?_⟩
    obtain ⟨e, he, hb, rfl⟩ := (after_iff ho).1 hi
    exact hall e he hb
  · rintro ⟨hlt, h0, hall⟩
    have ho : ops[j]? = some ops[j] := Array.getElem?_eq_getElem hlt
    exact ⟨(not_on (by omega)).1 h0, ops[j], ho, fun e he hb => hall e.on ((after_iff ho).2 ⟨e, he, hb, rfl⟩)⟩

/-- What is fixed of a region. -/
structure Region0 (ops : Array Oper) (nt : Nat) : Prop where
  qd : ∀ i, isQat ops i = true → ∃ d, dstAt ops i = some d
  qs : ∀ i, isQat ops i = true → looksB ops i (dstAt ops i) = false
  q1 : ∀ i j, isQat ops i = true → i ≠ j → j < ops.size → looksB ops j (dstAt ops i) = true → afterB ops j i = true
  q3 : ∀ i j, isQat ops i = true → i ≠ j → j < ops.size → dstAt ops j = dstAt ops i → isQat ops j = false ∧ (afterB ops i j = true ∨ afterB ops j i = true)
  fd : ∀ i, isFat ops i = true → ∃ d, dstAt ops i = some d
  f1 : ∀ i j, isFat ops i = true → i ≠ j → j < ops.size → dstAt ops j ≠ dstAt ops i
  wf : ∀ i j, i < ops.size → afterB ops i j = true → j < i
  dst : ∀ (i : Nat) (o : Oper), ops[i]? = some o → okDst nt o.dst = true

theorem qat_lt {i : Nat} (hi : isQat ops i = true) : i < ops.size := by
  unfold isQat at hi
  split at hi
  · rename_i o ho; exact (Array.getElem?_eq_some_iff.1 ho).1
  · exact absurd hi (by simp)
theorem fat_lt {i : Nat} (hi : isFat ops i = true) : i < ops.size := by
  unfold isFat at hi
  split at hi
  · rename_i o ho; exact (Array.getElem?_eq_some_iff.1 ho).1
  · exact absurd hi (by simp)
theorem q_not_f {i : Nat} (hi : isQat ops i = true) : isFat ops i = false := by
  unfold isQat at hi; unfold isFat
  split at hi
  · rename_i o ho
    cases hop : o.op <;> first | (simp [isF, ho, hop]; done) | (rw [hop] at hi; simp [isQ] at hi)
  · exact absurd hi (by simp)

theorem region0 (hp : apartOk ops = true) (hd : ∀ o, o ∈ ops.toList → okDst nt o.dst = true) : Region0 ops nt := by
  have key : ∀ i, i < ops.size → _ := fun i hi => List.all_eq_true.1 hp i (List.mem_range.2 hi)
  simp only [Bool.and_eq_true] at key
  refine ⟨fun i hq => ?_, fun i hq => ?_, fun i j hq hij hj hl => ?_, fun i j hq hij hj he => ?_, fun i hf => ?_, fun i j hf hij hj he => ?_, fun i j hi ha => ?_, fun i o ho => hd o (by simpa using Array.mem_of_getElem? ho)⟩
  · have := (key i (qat_lt hq)).1.1
    simp only [hq, Bool.not_true, Bool.false_or, Bool.and_eq_true] at this
    exact Option.isSome_iff_exists.1 this.1.1
  · have := (key i (qat_lt hq)).1.1
    simp only [hq, Bool.not_true, Bool.false_or, Bool.and_eq_true] at this
    simpa using this.1.2
  · have := (key i (qat_lt hq)).1.1
    simp only [hq, Bool.not_true, Bool.false_or, Bool.and_eq_true] at this
    have h2 := List.all_eq_true.1 this.2 j (List.mem_range.2 hj)
    rw [Bool.or_eq_true] at h2
    rcases h2 with e | h2
    · exact absurd (Nat.eq_of_beq_eq_true e).symm hij
    · simp only [apartQ, Bool.and_eq_true, Bool.or_eq_true, Bool.not_eq_true'] at h2
      rcases h2.1.1 with e | e
      · rw [hl] at e; exact absurd e (by simp)
      · exact e
  · have := (key i (qat_lt hq)).1.1
    simp only [hq, Bool.not_true, Bool.false_or, Bool.and_eq_true] at this
    have h2 := List.all_eq_true.1 this.2 j (List.mem_range.2 hj)
    rw [Bool.or_eq_true] at h2
    rcases h2 with e | h2
    · exact absurd (Nat.eq_of_beq_eq_true e).symm hij
    · simp only [apartQ, Bool.and_eq_true, Bool.or_eq_true, Bool.not_eq_true', beq_eq_false_iff_ne] at h2
      rcases h2.2 with e | e
      · exact absurd he e
      · exact e
  · have := (key i (fat_lt hf)).1.2
    simp only [hf, Bool.not_true, Bool.false_or, Bool.and_eq_true] at this
    exact Option.isSome_iff_exists.1 this.1
  · have := (key i (fat_lt hf)).1.2
    simp only [hf, Bool.not_true, Bool.false_or, Bool.and_eq_true] at this
    have h2 := List.all_eq_true.1 this.2 j (List.mem_range.2 hj)
    rw [Bool.or_eq_true] at h2
    rcases h2 with e | h2
    · exact absurd (Nat.eq_of_beq_eq_true e).symm hij
    · simp at h2; exact absurd he h2
  · have := (key i hi).2
    have ho : ops[i]? = some ops[i] := Array.getElem?_eq_getElem hi
    rw [ho] at this
    obtain ⟨e, he, hb, rfl⟩ := (after_iff ho).1 ha
    simp only [] at this
    have h2 := Array.all_eq_true_iff_forall_mem.1 this e he
    rw [hb] at h2
    simpa using h2

/-- The state of a drawn region: 'L' is done, 'A' is told. -/
structure J (P : Program) (cfg : Cfg) (base nt : Nat) (bs : List Nat) (ops : Array Oper) (w0 : World) (φ0 : Phi) (h0 : Heap) (L A : Array Bool) (js : List Nat) (pk : Nat → Option Nat) (env : Env) (h : Heap) (act : Act) (w : World) (φ : Phi) : Prop where
  szL : L.size = ops.size
  szA : A.size = ops.size
  sub : ∀ i, On L i → On A i ∨ (isFat ops i = true ∧ pk i ≠ none)
  ahead : ∀ i, On A i → ¬ On L i → i ∈ js
  jsq : ∀ i, i ∈ js → isQat ops i = true ∧ On A i
  clA : ∀ i j, On A i → afterB ops i j = true → On A j
  clL : ∀ i j, On L i → afterB ops i j = true → On L j
  prm : ∀ i, i ∈ js → ¬ On L i → gq P cfg base ops i env h = (dstAt ops i).map (get env)
  dfr : act.defers = []
  sz : act.tmps.size = nt
  rep : ∀ t, (∀ i, i ∈ js → ¬ On L i → dstAt ops i ≠ some t) → Rep w φ h h.length (get env t) (act.tmps.getD t undef)
  sim : Sim bs w φ h
  tr : Tr w0 φ0 h0 w ⟨φ.f, φ0.fr⟩ h
  fr : ∀ k, φ.fr k ↔ φ0.fr k ∨ ∃ i, pk i = some k
  pnd : ∀ i k, pk i = some k → On L i ∧ ¬ On A i ∧ isFat ops i = true ∧ w0.heap.size ≤ k ∧ ∃ e z, (∃ o, ops[i]? = some o ∧ o.op = .alloc e) ∧ (∃ ti, P.info? e = some ti ∧ ti.zero = some z) ∧
    (∀ d, dstAt ops i = some d → act.tmps.getD d undef = .pointer (some ⟨k, 0, none⟩)) ∧ w.heap[k]? = some (.cells z.cells e (0, 0))
  pinj : ∀ i j k, pk i = some k → pk j = some k → i = j
  flo : ∀ i, isFat ops i = true → ¬ On A i → ∀ d, dstAt ops i = some d → get env d = .undef

theorem Tr.refr (T : Tr w φ h w' φ' h') (fr : Nat → Prop) : Tr w ⟨φ.f, fr⟩ h w' ⟨φ'.f, fr⟩ h' :=
  ⟨T.os, T.tape, T.output, T.size, T.len, T.keep, T.var, T.vec, rfl⟩

/-- What the rows of 'env' that are not promised say. -/
def hide (ops : Array Oper) (L : Array Bool) (env : Env) : List Nat → Env
  | [] => env
  | i :: js => if On L i then hide ops L env js else put (hide ops L env js) (dstAt ops i) .undef

theorem hide_get : ∀ (js : List Nat) (t : Nat), get (hide ops L env js) t = .undef ∨ (get (hide ops L env js) t = get env t ∧ ∀ i, i ∈ js → ¬ On L i → dstAt ops i ≠ some t)
  | [], t => .inr ⟨rfl, fun i hi => absurd hi (by simp)⟩
  | i :: js, t => by
    unfold hide
    split
    · rename_i hon
      rcases hide_get js t with e | ⟨e1, e2⟩
      · exact .inl e
      · refine .inr ⟨e1, fun j hj hnj => ?_⟩
        rcases List.mem_cons.1 hj with rfl | hj
        · exact absurd hon hnj
        · exact e2 j hj hnj
    · by_cases hd : dstAt ops i = some t
      · rw [hd]; exact .inl (get_put_same _ _ _)
      · rw [get_put_ne _ _ hd]
        rcases hide_get js t with e | ⟨e1, e2⟩
        · exact .inl e
        · refine .inr ⟨e1, fun j hj hnj => ?_⟩
          rcases List.mem_cons.1 hj with rfl | hj
          · exact hd
          · exact e2 j hj hnj

theorem hide_same : ∀ (js : List Nat) (t : Nat), (∀ i, i ∈ js → ¬ On L i → dstAt ops i ≠ some t) → get (hide ops L env js) t = get env t
  | [], t, _ => rfl
  | i :: js, t, hn => by
    unfold hide
    split
    · exact hide_same js t fun j hj => hn j (by simp [hj])
    · rename_i hno
      rw [get_put_ne _ _ (hn i (by simp) hno)]
      exact hide_same js t fun j hj => hn j (by simp [hj])

theorem J.rel (j : J P cfg base nt bs ops w0 φ0 h0 L A js pk env h act w φ) : RelE w φ h nt (hide ops L env js) act :=
  ⟨j.dfr, j.sz, fun t => by
    rcases hide_get (ops := ops) (L := L) (env := env) js t with e | ⟨e1, e2⟩
    · rw [e]; exact .undef _ _
    · rw [e1]; exact j.rep t e2⟩

/-- What a ready operation looks at is not promised. -/
theorem J.looks (R0 : Region0 ops nt) (j : J P cfg base nt bs ops w0 φ0 h0 L A js pk env h act w φ) {i : Nat} (hi : i < ops.size) (hr : ∀ k, afterB ops i k = true → On L k) {o : Oper} (ho : ops[i]? = some o) :
    ∀ d, d ∈ o.looksAt ops → get env d = get (hide ops L env js) d := by
  intro d hd
  refine (hide_same js d fun k hk hnk e => ?_).symm
  have hq := (j.jsq k hk).1
  have hl : looksB ops i (dstAt ops k) = true := by rw [e]; exact (looksB_iff ho).2 hd
  by_cases hki : k = i
  · subst hki
    rw [R0.qs k hq] at hl; exact absurd hl (by simp)
  · exact hnk (hr k (R0.q1 k i hq hki hi hl))
end
end Go.Proofs.Ytckjogpdnkocbaa.Den
namespace Go.Proofs.Ytckjogpdnkocbaa.Den

section
variable {P : Program} {cfg : Cfg} {C : CallFn} {w w' w0 : World} {φ φ' φ0 : Phi} {h h' h0 : Heap} {B B' base : Nat} {bs : List Nat} {env env' : Env} {nt : Nat} {act : Act} {ops : Array Oper} {L D : Array Bool} {js : List Nat} {pk : Nat → Option Nat} {Q : Exit → Act → World → Prop}

/-- What an operation gives, its guard told. -/
def Res (P : Program) (cfg : Cfg) (C : CallFn) (base : Nat) (ops : Array Oper) (o : Oper) (env : Env) (h : Heap) (r : A × Heap) : Prop :=
  (guardOk ops env o.guard = some true ∧ stepOp P cfg C base o.op env h = some r) ∨ (guardOk ops env o.guard = some false ∧ r = (.undef, h))

theorem J.wpOp (R0 : Region0 ops nt) (j : J P cfg base nt bs ops w0 φ0 h0 L D js pk env h act w φ) (hC : CallOk P C) (hbs : ∀ B, B ∈ bs → B ≤ base) {i : Nat} (hr : i ∈ Region.ready .any ops L) {o : Oper} (ho : ops[i]? = some o) {r : A × Heap} (hres : Res P cfg C base ops o env h r)
    {K : Act → World → Prop} (hK : ∀ v w' φ', Tr w φ h w' φ' r.2 → Sim bs w' φ' r.2 → Rep w' φ' r.2 r.2.length r.1 v → K (act.put o.dst v) w') : Go.wpOp P ops Q i K act w := by
  obtain ⟨hlt, hnl, hdep⟩ := (ready_iff j.szL).1 hr
  have hl := j.looks R0 hlt hdep ho
  unfold Go.wpOp
  simp only [ho]
  rcases hres with ⟨hg, hs⟩ | ⟨hg, rfl⟩
  · rw [guard_same hl] at hg
    rw [stepOp_same (same_of_looks hl)] at hs
    rw [guard_ok j.rel hg, if_pos rfl]
    exact .inl ((op_ok hC hbs j.rel j.sim hs).wp hK)
  · rw [guard_same hl] at hg
    rw [guard_ok j.rel hg, if_neg (by simp)]
    exact hK undef w φ (Tr.refl _ _ _) j.sim (.undef _ _)

theorem put_getD {d : Nat} (hd : d < act.tmps.size) (v : Value) (t : Nat) : (act.put (some d) v).tmps.getD t undef = if t = d then v else act.tmps.getD t undef := by
  unfold Act.put
  simp only []
  by_cases ht : t = d
  · subst ht; simp [hd]
  · rw [if_neg ht]
    simp only [Array.getD_eq_getD_getElem?, Array.getElem?_setIfInBounds_ne (Ne.symm ht)]

theorem put_getD_ne {d : Option Nat} {t : Nat} (hd : d ≠ some t) (v : Value) : (act.put d v).tmps.getD t undef = act.tmps.getD t undef := by
  cases d with
  | none => rfl
  | some d =>
    have ht : t ≠ d := fun e => hd (by rw [e])
    unfold Act.put
    simp only [Array.getD_eq_getD_getElem?, Array.getElem?_setIfInBounds_ne (Ne.symm ht)]

theorem put_size (d : Option Nat) (v : Value) : (act.put d v).tmps.size = act.tmps.size := by
  cases d <;> simp [Act.put]
theorem put_dfr (d : Option Nat) (v : Value) : (act.put d v).defers = act.defers := by
  cases d <;> rfl

/-- A pending block stays. -/
theorem J.keep (j : J P cfg base nt bs ops w0 φ0 h0 L D js pk env h act w φ) (T : Tr w φ h w' φ' h') {i k : Nat} (hp : pk i = some k) : w'.heap[k]? = w.heap[k]? := by
  have hfr : φ.fr k := (j.fr k).2 (.inr ⟨i, hp⟩)
  exact (T.keep k (j.sim.frd k hfr) fun b hb => j.sim.frn b k hb hfr).1

/-- What was promised is carried out. -/
theorem J.late (R0 : Region0 ops nt) (j : J P cfg base nt bs ops w0 φ0 h0 L D js pk env h act w φ) (hbs : ∀ B, B ∈ bs → B ≤ base) {i : Nat} (hr : i ∈ Region.ready .any ops L) (hA : On D i)
    {K : Act → World → Prop} (hK : ∀ act' w' φ', J P cfg base nt bs ops w0 φ0 h0 (L.setIfInBounds i true) D js pk env h act' w' φ' → K act' w') : Go.wpOp P ops Q i K act w := by
  obtain ⟨hlt, hnl, hdep⟩ := (ready_iff j.szL).1 hr
  have hltL : i < L.size := by rw [j.szL]; exact hlt
  have hij := j.ahead i hA hnl
  have hq := (j.jsq i hij).1
  obtain ⟨d, hd⟩ := R0.qd i hq
  have ho : ops[i]? = some ops[i] := Array.getElem?_eq_getElem hlt
  have hod : ops[i].dst = some d := by simpa [dstAt, ho] using hd
  have hprm := j.prm i hij hnl
  rw [hd, Option.map_some] at hprm
  have hC0 : CallOk P (fun _ _ _ => none) := ⟨fun _ _ _ _ hc => absurd hc (by simp), fun _ _ _ hc => absurd hc (by simp)⟩
  have hres : Res P cfg (fun _ _ _ => none) base ops ops[i] env h (get env d, h) := by
    unfold gq at hprm
    simp only [ho] at hprm
    split at hprm
    · rename_i hg
      split at hprm
      · rename_i v h2 hs
        split at hprm
        · rename_i e
          subst e
          injection hprm with hprm
          subst hprm
          exact .inl ⟨hg, hs⟩
        · exact absurd hprm (by simp)
      · exact absurd hprm (by simp)
    · rename_i hg
      injection hprm with hprm
      exact .inr ⟨hg, by rw [← hprm]⟩
    · exact absurd hprm (by simp)
  refine j.wpOp R0 hC0 hbs hr ho hres fun v w' φ' T S hv => hK _ w' φ' ?_
  rw [hod]
  have hdn : d < act.tmps.size := by
    have := R0.dst i _ ho
    rw [hod] at this
    rw [j.sz]; simpa [okDst] using this
  have hon : ∀ k, On (L.setIfInBounds i true) k ↔ k = i ∨ On L k := fun k => on_set hltL
  refine ⟨by simp [j.szL], j.szA, fun k hk => ?_, fun k hk hn => j.ahead k hk fun hc => hn ((hon k).2 (.inr hc)), j.jsq, j.clA, fun k m hk hm => ?_, fun k hk hn => j.prm k hk fun hc => hn ((hon k).2 (.inr hc)), j.dfr, by rw [put_size]; exact j.sz, fun t ht => ?_, S, j.tr.trans (T.refr _), fun k => by rw [T.fr]; exact j.fr k, fun m k hm => ?_, j.pinj, j.flo⟩
  · rcases (hon k).1 hk with rfl | hk
    · exact .inl hA
    · exact j.sub k hk
  · rcases (hon k).1 hk with rfl | hk
    · exact (hon m).2 (.inr (hdep m hm))
    · exact (hon m).2 (.inr (j.clL k m hk hm))
  · rw [put_getD hdn]
    split
    · rename_i e; subst e; exact hv
    · rename_i hne
      refine (j.rep t fun k hk hnk => ?_).tr T (Nat.le_refl _) T.len
      by_cases hki : k = i
      · subst hki; rw [hd]; exact fun e => hne (Option.some.inj e).symm
      · exact ht k hk fun hc => ((hon k).1 hc).elim hki hnk
  · obtain ⟨p1, p2, p3, p4, e, z, p5, p6, p7, p8⟩ := j.pnd m k hm
    refine ⟨(hon m).2 (.inr p1), p2, p3, p4, e, z, p5, p6, fun d2 hd2 => ?_, (j.keep T hm).trans p8⟩
    rw [put_getD_ne]
    · exact p7 d2 hd2
    · have hmi : m ≠ i := fun e => by subst e; exact hnl p1
      have := R0.f1 m i p3 hmi hlt
      rw [hd, hd2] at this
      exact this

/-- An operation is carried out and told at once. -/
theorem J.sync (R0 : Region0 ops nt) (j : J P cfg base nt bs ops w0 φ0 h0 L D js pk env h act w φ) (hC : CallOk P C) (hbs : ∀ B, B ∈ bs → B ≤ base) {i : Nat} (hr : i ∈ Region.ready .any ops L) (hrA : i ∈ Region.ready .any ops D) (hnq : isQat ops i = false) (hnf : isFat ops i = false)
    {o : Oper} (ho : ops[i]? = some o) {r : A × Heap} (hres : Res P cfg C base ops o env h r) (hprom : prom P cfg base ops i (put env o.dst r.1) r.2 js)
    {K : Act → World → Prop} (hK : ∀ act' w' φ', J P cfg base nt bs ops w0 φ0 h0 (L.setIfInBounds i true) (D.setIfInBounds i true) js pk (put env o.dst r.1) r.2 act' w' φ' → K act' w') : Go.wpOp P ops Q i K act w := by
  obtain ⟨hlt, hnl, hdep⟩ := (ready_iff j.szL).1 hr
  obtain ⟨_, hnA, hdepA⟩ := (ready_iff j.szA).1 hrA
  have hltL : i < L.size := by rw [j.szL]; exact hlt
  have hltA : i < D.size := by rw [j.szA]; exact hlt
  have hon : ∀ k, On (L.setIfInBounds i true) k ↔ k = i ∨ On L k := fun k => on_set hltL
  have honA : ∀ k, On (D.setIfInBounds i true) k ↔ k = i ∨ On D k := fun k => on_set hltA
  have hdo : dstAt ops i = o.dst := by simp [dstAt, ho]
  refine j.wpOp R0 hC hbs hr ho hres fun v w' φ' T S hv => hK _ w' φ' ?_
  have hprom' : ∀ k, k ∈ js → ¬ On L k → gq P cfg base ops k (put env o.dst r.1) r.2 = (dstAt ops k).map (get (put env o.dst r.1)) := by
    intro k hk hnk
    clear hK j
    induction js with
    | nil => simp at hk
    | cons m ms ih =>
      obtain ⟨p1, p2⟩ := hprom
      rcases List.mem_cons.1 hk with rfl | hk
      · exact p1.resolve_left fun ha => hnk (hdep k ha)
      · exact ih p2 hk
  refine ⟨by simp [j.szL], by simp [j.szA], fun k hk => ?_, fun k hk hn => ?_, fun k hk => ⟨(j.jsq k hk).1, (honA k).2 (.inr (j.jsq k hk).2)⟩, fun k m hk hm => ?_, fun k m hk hm => ?_, fun k hk hn => hprom' k hk fun hc => hn ((hon k).2 (.inr hc)), by rw [put_dfr]; exact j.dfr, by rw [put_size]; exact j.sz, fun t ht => ?_, S, j.tr.trans (T.refr _), fun k => by rw [T.fr]; exact j.fr k, fun m k hm => ?_, j.pinj, fun k hk hn d hd => ?_⟩
  · rcases (hon k).1 hk with rfl | hk
    · exact .inl ((honA k).2 (.inl rfl))
    · exact (j.sub k hk).imp (fun e => (honA k).2 (.inr e)) id
  · rcases (honA k).1 hk with rfl | hk
    · exact absurd ((hon k).2 (.inl rfl)) hn
    · exact j.ahead k hk fun hc => hn ((hon k).2 (.inr hc))
  · rcases (honA k).1 hk with rfl | hk
    · exact (honA m).2 (.inr (hdepA m hm))
    · exact (honA m).2 (.inr (j.clA k m hk hm))
  · rcases (hon k).1 hk with rfl | hk
    · exact (hon m).2 (.inr (hdep m hm))
    · exact (hon m).2 (.inr (j.clL k m hk hm))
  · by_cases hd : o.dst = some t
    · have hdn : t < act.tmps.size := by
        have := R0.dst i _ ho
        rw [hd] at this
        rw [j.sz]; simpa [okDst] using this
      rw [hd, get_put_same, put_getD hdn, if_pos rfl]
      exact hv
    · rw [get_put_ne _ _ hd, put_getD_ne hd]
      refine (j.rep t fun k hk hnk => ht k hk fun hc => ?_).tr T (Nat.le_refl _) T.len
      rcases (hon k).1 hc with rfl | hc
      · exact hnA (j.jsq k hk).2
      · exact hnk hc
  · obtain ⟨p1, p2, p3, p4, e, z, p5, p6, p7, p8⟩ := j.pnd m k hm
    have hmi : m ≠ i := fun e => by subst e; rw [hnf] at p3; exact absurd p3 (by simp)
    refine ⟨(hon m).2 (.inr p1), fun hc => ((honA m).1 hc).elim hmi p2, p3, p4, e, z, p5, p6, fun d2 hd2 => ?_, (j.keep T hm).trans p8⟩
    rw [put_getD_ne]
    · exact p7 d2 hd2
    · have := R0.f1 m i p3 hmi hlt
      rw [hdo, hd2] at this
      exact this
  · have hki : k ≠ i := fun e => by subst e; rw [hnf] at hk; exact absurd hk (by simp)
    rw [get_put_ne]
    · exact j.flo k hk (fun hc => hn ((honA k).2 (.inr hc))) d hd
    · have := R0.f1 k i hk hki hlt
      rw [hdo, hd] at this
      exact this

/-- An operation is told ahead of its turn. -/
theorem J.early (R0 : Region0 ops nt) (j : J P cfg base nt bs ops w0 φ0 h0 L D js pk env h act w φ) {i : Nat} (hrA : i ∈ Region.ready .any ops D) (hq : isQat ops i = true) {v : A} (hg : gq P cfg base ops i env h = some v) :
    J P cfg base nt bs ops w0 φ0 h0 L (D.setIfInBounds i true) (i :: js) pk (put env (dstAt ops i) v) h act w φ := by
  obtain ⟨hlt, hnA, hdepA⟩ := (ready_iff j.szA).1 hrA
  have hltA : i < D.size := by rw [j.szA]; exact hlt
  have honA : ∀ k, On (D.setIfInBounds i true) k ↔ k = i ∨ On D k := fun k => on_set hltA
  obtain ⟨d, hd⟩ := R0.qd i hq
  have hnL : ¬ On L i := fun hc => by
    rcases j.sub i hc with e | ⟨e, _⟩
    · exact hnA e
    · rw [q_not_f hq] at e; exact absurd e (by simp)
  refine ⟨j.szL, by simp [j.szA], fun k hk => (j.sub k hk).imp (fun e => (honA k).2 (.inr e)) id, fun k hk hn => ?_, fun k hk => ?_, fun k m hk hm => ?_, j.clL, fun k hk hn => ?_, j.dfr, j.sz, fun t ht => ?_, j.sim, j.tr, j.fr, fun m k hm => ?_, j.pinj, fun k hk hn d2 hd2 => ?_⟩
  · rcases (honA k).1 hk with rfl | hk
    · simp
    · exact List.mem_cons_of_mem _ (j.ahead k hk hn)
  · rcases List.mem_cons.1 hk with rfl | hk
    · exact ⟨hq, (honA k).2 (.inl rfl)⟩
    · exact ⟨(j.jsq k hk).1, (honA k).2 (.inr (j.jsq k hk).2)⟩
  · rcases (honA k).1 hk with rfl | hk
    · exact (honA m).2 (.inr (hdepA m hm))
    · exact (honA m).2 (.inr (j.clA k m hk hm))
  · have hsame : ∀ m, (∀ o, ops[m]? = some o → d ∉ o.looksAt ops) → gq P cfg base ops m (put env (some d) v) h = gq P cfg base ops m env h := fun m hm =>
      gq_same fun o ho x hx => get_put_ne _ _ fun e => hm o ho (by injection e with e; rw [e]; exact hx)
    rw [hd]
    rcases List.mem_cons.1 hk with rfl | hk
    · rw [hsame k fun o ho hc => by
        have := R0.qs k hq
        rw [hd, (looksB_iff ho).2 hc] at this
        exact absurd this (by simp), hg, hd, Option.map_some, get_put_same]
    · have hki : i ≠ k := fun e => by subst e; exact hnA (j.jsq i hk).2
      have hkq := (j.jsq k hk).1
      rw [hsame k fun o ho hc => hnA (j.clA k i (j.jsq k hk).2 (R0.q1 i k hq hki (qat_lt hkq) (by rw [hd]; exact (looksB_iff ho).2 hc))), j.prm k hk hn]
      obtain ⟨dk, hdk⟩ := R0.qd k hkq
      rw [hdk, Option.map_some, Option.map_some, get_put_ne]
      intro e
      have := (R0.q3 i k hq hki (qat_lt hkq) (by rw [hdk, hd, e])).1
      rw [hkq] at this; exact absurd this (by simp)
  · have hdt : d ≠ t := fun e => ht i (by simp) hnL (by rw [hd, e])
    rw [hd, get_put_ne _ _ (fun e => hdt (Option.some.inj e))]
    exact j.rep t fun k hk hnk => ht k (List.mem_cons_of_mem _ hk) hnk
  · obtain ⟨p1, p2, p3, p4, p5⟩ := j.pnd m k hm
    exact ⟨p1, fun hc => ((honA m).1 hc).elim (fun e => by subst e; exact hnL p1) p2, p3, p4, p5⟩
  · have hki : k ≠ i := fun e => by subst e; rw [q_not_f hq] at hk; exact absurd hk (by simp)
    rw [get_put_ne]
    · exact j.flo k hk (fun hc => hn ((honA k).2 (.inr hc))) d2 hd2
    · have := R0.f1 k i hk hki hlt
      rw [hd2] at this
      exact this
end
end Go.Proofs.Ytckjogpdnkocbaa.Den
namespace Go.Proofs.Ytckjogpdnkocbaa.Den

section
variable {P : Program} {cfg : Cfg} {C : CallFn} {w w' w0 : World} {φ φ' φ0 : Phi} {h h' h0 : Heap} {B B' base : Nat} {bs : List Nat} {env env' : Env} {nt : Nat} {act : Act} {ops : Array Oper} {L D : Array Bool} {js : List Nat} {pk : Nat → Option Nat} {Q : Exit → Act → World → Prop}

theorem BlkOk.map (hm : ∀ (C : Nat) (cs : List A) (vs : List Value), C ≤ B → RepL w φ h C cs vs → RepL w' φ' h' C cs vs) {b : Nat} {x : Blk} (hφ : φ' b = φ b) (hw : ∀ k, φ b = some k → w'.heap[k]? = w.heap[k]?) (hx : BlkOk w φ h B b x) : BlkOk w' φ' h' B b x := by
  cases x with
  | dead => exact hφ.trans hx
  | var cs =>
    obtain ⟨k, et, fz, cells, a1, a2, a3, a4⟩ := hx
    exact ⟨k, et, fz, cells, hφ.trans a1, (hw k a1).trans a2, a3, hm _ _ _ (Nat.le_refl _) a4⟩
  | vec ver sz rows =>
    rcases hx with ⟨a1, a2, a3⟩ | ⟨k, et, fz, cells, a1, a2, a3, a4, a5, a6⟩
    · exact .inl ⟨hφ.trans a1, a2, a3⟩
    · exact .inr ⟨k, et, fz, cells, hφ.trans a1, (hw k a1).trans a2, a3, a4, a5, fun i row hi => ⟨(a6 i row hi).1, hm _ _ _ (Nat.zero_le _) (a6 i row hi).2⟩⟩

/-- A place set aside. -/
def aside (φ : Phi) (k : Nat) : Phi := ⟨φ.f, fun b => φ.fr b ∨ b = k⟩

theorem alloc_keep_tr (S : Sim bs w φ h) (o : Obj) : Tr w (aside φ w.heap.size) h (w.alloc o) (aside φ w.heap.size) h := by
  refine ⟨rfl, rfl, rfl, by simp, Nat.le_refl _, fun k hk hφ => ⟨heap_push_lt w o k hk, hφ⟩, fun b cs hc => ⟨⟨cs, hc⟩, rfl⟩, fun b _ ver sz rows hh => ⟨ver, sz, rows, hh, Nat.le_refl _, fun _ => ⟨rfl, rfl, rfl, fun k hk => ?_⟩⟩, rfl⟩
  simp only [cellsIn, heap_push_lt w o k (S.dom b k hk).2]

theorem alloc_keep_rep (S : Sim bs w φ h) (o : Obj) {a : A} {v : Value} (hB : B ≤ h.length) (hr : Rep w φ h B a v) : Rep (w.alloc o) (aside φ w.heap.size) h B a v :=
  ((Rep.cut (φ := φ) (φ' := aside φ w.heap.size) (h := h) (h' := h) (N := B) (fun b _ => ⟨rfl, rfl⟩) (fun b hb (ho : φ.out b) => ⟨ho.1, fun hc => hc.elim ho.2 (by omega)⟩) (Nat.le_refl _) (Nat.le_refl _)) hr).tr (alloc_keep_tr S o) hB (Nat.le_refl _)

theorem alloc_keep_repL (S : Sim bs w φ h) (o : Obj) {as : List A} {vs : List Value} (hB : B ≤ h.length) (hr : RepL w φ h B as vs) : RepL (w.alloc o) (aside φ w.heap.size) h B as vs :=
  ((RepL.cut (φ := φ) (φ' := aside φ w.heap.size) (h := h) (h' := h) (N := B) (fun b _ => ⟨rfl, rfl⟩) (fun b hb (ho : φ.out b) => ⟨ho.1, fun hc => hc.elim ho.2 (by omega)⟩) (Nat.le_refl _) (Nat.le_refl _)) hr).tr (alloc_keep_tr S o) hB (Nat.le_refl _)

theorem alloc_keep_sim (S : Sim bs w φ h) (o : Obj) : Sim bs (w.alloc o) (aside φ w.heap.size) h := by
  refine ⟨S.inj, fun i k hi => ⟨(S.dom i k hi).1, by have := (S.dom i k hi).2; simp; omega⟩, S.bnd, fun i k hi hc => ?_, fun k hk => ?_, fun B hB b x hb hx => ?_⟩
  · rcases hc with hc | hc
    · exact S.frn i k hi hc
    · have := (S.dom i k hi).2; omega
  · rcases hk with hk | hk
    · have := S.frd k hk; simp; omega
    · simp; omega
  · have hBl : B ≤ h.length := by
      rcases hB with e | e
      · omega
      · exact S.bnd B e
    exact (S.blk B hB b x hb hx).map (fun C cs vs hC hr => alloc_keep_repL S o (Nat.le_trans hC hBl) hr) rfl fun k hk => heap_push_lt w o k (S.dom b k hk).2

/-- A new variable is made ahead of its telling. -/
theorem J.float (R0 : Region0 ops nt) (j : J P cfg base nt bs ops w0 φ0 h0 L D js pk env h act w φ) {i : Nat} (hr : i ∈ Region.ready .any ops L) (hf : isFat ops i = true) (hnD : ¬ On D i)
    {o : Oper} (ho : ops[i]? = some o) (hgd : o.guard = none) {e : TypeId} (hop : o.op = .alloc e) {ti : TypeInfo} (hti : P.info? e = some ti) {z : Value} (hz : ti.zero = some z)
    {K : Act → World → Prop} (hK : ∀ act' w' φ' pk', pk' i ≠ none → J P cfg base nt bs ops w0 φ0 h0 (L.setIfInBounds i true) D js pk' env h act' w' φ' → K act' w') : Go.wpOp P ops Q i K act w := by
  obtain ⟨hlt, hnl, hdep⟩ := (ready_iff j.szL).1 hr
  have hltL : i < L.size := by rw [j.szL]; exact hlt
  have hon : ∀ k, On (L.setIfInBounds i true) k ↔ k = i ∨ On L k := fun k => on_set hltL
  have hdo : dstAt ops i = o.dst := by simp [dstAt, ho]
  have hpi : pk i = none := by
    cases hp : pk i with
    | none => rfl
    | some k => exact absurd (j.pnd i k hp).1 hnl
  unfold Go.wpOp
  simp only [ho]
  rw [show Region.wanted o (yielded ops act.tmps) = true by unfold Region.wanted; rw [hgd], if_pos rfl]
  refine .inl ?_
  unfold Oper.wp
  have hrun : (execOp act.eval o).run P w = .ok (.value (.pointer (some ⟨w.heap.size, 0, none⟩))) (w.alloc (.cells z.cells e)) := by
    unfold execOp
    rw [hop]
    exact run_step (alloc_run hti hz)
  rw [hrun]
  refine hK _ _ (aside φ w.heap.size) (fun k => if k = i then some w.heap.size else pk k) (by simp) ?_
  have hk : ∀ k, k < w.heap.size → (w.alloc (.cells z.cells e)).heap[k]? = w.heap[k]? := fun k hk => heap_push_lt w _ k hk
  have hfr0 : ∀ m k, pk m = some k → k < w.heap.size := fun m k hm => j.sim.frd k ((j.fr k).2 (.inr ⟨m, hm⟩))
  have hT0 : Tr w ⟨φ.f, φ0.fr⟩ h (w.alloc (.cells z.cells e)) ⟨φ.f, φ0.fr⟩ h := (alloc_keep_tr j.sim _).refr φ0.fr
  refine ⟨by simp [j.szL], j.szA, fun k hk => ?_, fun k hk hn => j.ahead k hk fun hc => hn ((hon k).2 (.inr hc)), j.jsq, j.clA, fun k m hk hm => ?_, fun k hk hn => j.prm k hk fun hc => hn ((hon k).2 (.inr hc)), by rw [put_dfr]; exact j.dfr, by rw [put_size]; exact j.sz, fun t ht => ?_, alloc_keep_sim j.sim _, j.tr.trans hT0, fun k => ?_, fun m k hm => ?_, fun a b k ha hb => ?_, j.flo⟩
  · rcases (hon k).1 hk with rfl | hk2
    · exact .inr ⟨hf, by simp⟩
    · refine (j.sub k hk2).imp id fun ⟨a, b⟩ => ⟨a, ?_⟩
      by_cases hki : k = i
      · subst hki; exact absurd hk2 hnl
      · simp [hki, b]
  · rcases (hon k).1 hk with rfl | hk
    · exact (hon m).2 (.inr (hdep m hm))
    · exact (hon m).2 (.inr (j.clL k m hk hm))
  · by_cases hd : o.dst = some t
    · rw [j.flo i hf hnD t (by rw [hdo, hd])]
      exact .undef _ _
    · rw [put_getD_ne hd]
      refine alloc_keep_rep j.sim _ (Nat.le_refl _) (j.rep t fun k hk hnk => ht k hk fun hc => ?_)
      rcases (hon k).1 hc with rfl | hc
      · exact hnD (j.jsq k hk).2
      · exact hnk hc
  · show (φ.fr k ∨ k = w.heap.size) ↔ _
    rw [j.fr k]
    constructor
    · rintro ((a | ⟨m, hm⟩) | rfl)
      · exact .inl a
      · refine .inr ⟨m, ?_⟩
        by_cases hmi : m = i
        · subst hmi; rw [hpi] at hm; exact absurd hm (by simp)
        · simp [hmi, hm]
      · exact .inr ⟨i, by simp⟩
    · rintro (a | ⟨m, hm⟩)
      · exact .inl (.inl a)
      · by_cases hmi : m = i
        · simp [hmi] at hm; exact .inr hm.symm
        · simp [hmi] at hm; exact .inl (.inr ⟨m, hm⟩)
  · by_cases hmi : m = i
    · subst hmi
      simp at hm
      subst hm
      refine ⟨(hon m).2 (.inl rfl), hnD, hf, j.tr.size, e, z, ⟨o, ho, hop⟩, ⟨ti, hti, hz⟩, fun d hd => ?_, heap_push_new w _⟩
      rw [hdo] at hd
      have hdn : d < act.tmps.size := by
        have := R0.dst m _ ho
        rw [hd] at this
        rw [j.sz]; simpa [okDst] using this
      rw [hd, put_getD hdn, if_pos rfl]
    · simp [hmi] at hm
      obtain ⟨p1, p2, p3, p4, e2, z2, p5, p6, p7, p8⟩ := j.pnd m k hm
      refine ⟨(hon m).2 (.inr p1), p2, p3, p4, e2, z2, p5, p6, fun d2 hd2 => ?_, (hk k (hfr0 m k hm)).trans p8⟩
      rw [put_getD_ne]
      · exact p7 d2 hd2
      · have := R0.f1 m i p3 hmi hlt
        rw [hdo, hd2] at this
        exact this
  · by_cases hai : a = i <;> by_cases hbi : b = i
    · rw [hai, hbi]
    · simp [hai] at ha; simp [hbi] at hb
      have := hfr0 b k hb; omega
    · simp [hai] at ha; simp [hbi] at hb
      have := hfr0 a k ha; omega
    · simp [hai] at ha; simp [hbi] at hb
      exact j.pinj a b k ha hb
end
end Go.Proofs.Ytckjogpdnkocbaa.Den
namespace Go.Proofs.Ytckjogpdnkocbaa.Den

section
variable {P : Program} {cfg : Cfg} {C : CallFn} {w w' w0 : World} {φ φ' φ0 : Phi} {h h' h0 : Heap} {B B' base : Nat} {bs : List Nat} {env env' : Env} {nt : Nat} {act : Act} {ops : Array Oper} {L D : Array Bool} {js : List Nat} {pk : Nat → Option Nat} {Q : Exit → Act → World → Prop}

def without (pk : Nat → Option Nat) (i : Nat) : Nat → Option Nat := fun m => if m = i then none else pk m
def adopted (φ φ0 : Phi) (N k : Nat) (pk : Nat → Option Nat) : Phi := ⟨(upd φ N (some k)).f, fun b => φ0.fr b ∨ ∃ m, pk m = some b⟩

theorem without_some {i m k : Nat} (hm : without pk i m = some k) : m ≠ i ∧ pk m = some k := by
  unfold without at hm
  split at hm
  · exact absurd hm (by simp)
  · rename_i hne; exact ⟨hne, hm⟩

theorem J.adopt (R0 : Region0 ops nt) (S0 : Sim bs w0 φ0 h0) (j : J P cfg base nt bs ops w0 φ0 h0 L D js pk env h act w φ) {i : Nat} (hrD : i ∈ Region.ready .any ops D) (hf : isFat ops i = true)
    {o : Oper} (ho : ops[i]? = some o) {r : A × Heap} (hs : stepOp P cfg C base o.op env h = some r) (hprom : prom P cfg base ops i (put env o.dst r.1) r.2 js) {k : Nat} (hp : pk i = some k) :
    ∃ φ', J P cfg base nt bs ops w0 φ0 h0 L (D.setIfInBounds i true) js (without pk i) (put env o.dst r.1) r.2 act w φ' := by
  obtain ⟨hlt, hnD, hdepD⟩ := (ready_iff j.szA).1 hrD
  have hltD : i < D.size := by rw [j.szA]; exact hlt
  have honD : ∀ m, On (D.setIfInBounds i true) m ↔ m = i ∨ On D m := fun m => on_set hltD
  have hdo : dstAt ops i = o.dst := by simp [dstAt, ho]
  obtain ⟨pL, _, _, pk0, e, z, ⟨o', ho', hop⟩, ⟨tinf, hti, hz⟩, pd, pw⟩ := j.pnd i k hp
  rw [ho] at ho'; injection ho' with ho'; subst ho'
  obtain ⟨d, hd⟩ := R0.fd i hf
  have hod : o.dst = some d := by rw [← hdo]; exact hd
  -- what is told
  rw [hop] at hs
  simp only [stepOp] at hs
  obtain ⟨td, htd⟩ : ∃ td, P.underlying e = some td ∧ tab P e = some (tiOf tinf td) := by
    cases ht : tab P e with
    | none => simp [ht] at hs
    | some ti =>
      obtain ⟨i2, d2, h1, h2, rfl⟩ := tab_inv ht
      rw [hti] at h1; injection h1 with h1; subst h1
      exact ⟨d2, h2, rfl⟩
  have hzero : (tiOf tinf td).zero = some z.cells.toList := by simp [tiOf, hz]
  simp only [htd.2, hzero, Option.some.injEq] at hs
  obtain ⟨T1, S1, R1⟩ := virtL_ok z.cells.toList j.sim
  generalize virtL z.cells.toList h = vz at hs T1 S1 R1
  obtain ⟨zc, hv⟩ := vz
  simp only at hs T1 S1 R1
  subst hs
  have hfrk : φ.fr k := (j.fr k).2 (.inr ⟨i, hp⟩)
  have hkw : k < w.heap.size := j.sim.frd k hfrk
  have hnk : ∀ b, φ b ≠ some k := fun b hb => j.sim.frn b k hb hfrk
  have hlen : h0.length ≤ hv.length := Nat.le_trans j.tr.len T1.len
  have hout : ∀ b, b < w.heap.size → φ.out b → (adopted φ φ0 hv.length k (without pk i)).out b := by
    intro b _ hb
    refine ⟨fun m => ?_, fun hc => ?_⟩
    · by_cases hm : m = hv.length
      · subst hm
        show (upd φ hv.length (some k)) hv.length ≠ some b
        rw [upd_same]
        intro e; injection e with e; subst e; exact hb.2 hfrk
      · show (upd φ hv.length (some k)) m ≠ some b
        rw [upd_ne _ _ hm]; exact hb.1 m
    · rcases hc with hc | ⟨m, hm⟩
      · exact hb.2 ((j.fr b).2 (.inl hc))
      · exact hb.2 ((j.fr b).2 (.inr ⟨m, (without_some hm).2⟩))
  have hcut : ∀ b, b < hv.length → (hv ++ [Blk.var zc])[b]? = hv[b]? ∧ (adopted φ φ0 hv.length k (without pk i)) b = φ b := fun b hb =>
    ⟨List.getElem?_append_left hb, upd_ne _ _ (by omega)⟩
  have hget : (hv ++ [Blk.var zc])[hv.length]? = some (Blk.var zc) := by simp
  have hrepC : ∀ {B : Nat} {a : A} {v : Value}, B ≤ hv.length → Rep w φ hv B a v → ∀ {B' : Nat}, B ≤ B' → Rep w (adopted φ φ0 hv.length k (without pk i)) (hv ++ [Blk.var zc]) B' a v := fun hB hr _ hB' => Rep.cut hcut hout hB hB' hr
  have hrepL : ∀ {B : Nat} {as : List A} {vs : List Value}, B ≤ hv.length → RepL w φ hv B as vs → ∀ {B' : Nat}, B ≤ B' → RepL w (adopted φ φ0 hv.length k (without pk i)) (hv ++ [Blk.var zc]) B' as vs := fun hB hr _ hB' => RepL.cut hcut hout hB hB' hr
  have hφN : (adopted φ φ0 hv.length k (without pk i)) hv.length = some k := upd_same _ _ _
  have hsim : Sim bs w (adopted φ φ0 hv.length k (without pk i)) (hv ++ [Blk.var zc]) := by
    refine ⟨fun a b m ha hb => ?_, fun a m ha => ?_, fun B hB => Nat.le_trans (S1.bnd B hB) (by simp), fun a m ha hc => ?_, fun m hm => ?_, fun B hB b x hb hx => ?_⟩
    · by_cases h1 : a = hv.length <;> by_cases h2 : b = hv.length
      · rw [h1, h2]
      · subst h1; rw [hφN] at ha; injection ha with ha; subst ha
        exact absurd ((upd_ne φ (some k) h2).symm.trans hb) (hnk b)
      · subst h2; rw [hφN] at hb; injection hb with hb; subst hb
        exact absurd ((upd_ne φ (some k) h1).symm.trans ha) (hnk a)
      · exact S1.inj a b m ((upd_ne φ (some k) h1).symm.trans ha) ((upd_ne φ (some k) h2).symm.trans hb)
    · by_cases h1 : a = hv.length
      · subst h1; rw [hφN] at ha; injection ha with ha; subst ha
        exact ⟨by simp, hkw⟩
      · have := S1.dom a m ((upd_ne φ (some k) h1).symm.trans ha)
        exact ⟨by simp; omega, this.2⟩
    · by_cases h1 : a = hv.length
      · subst h1; rw [hφN] at ha; injection ha with ha; subst ha
        rcases hc with hc | ⟨m2, hm2⟩
        · have := S0.frd _ hc; omega
        · obtain ⟨e1, e2⟩ := without_some hm2
          exact e1 (j.pinj _ _ _ e2 hp)
      · have ha' := (upd_ne φ (some k) h1).symm.trans ha
        refine S1.frn a m ha' ((j.fr m).2 ?_)
        rcases hc with hc | ⟨m2, hm2⟩
        · exact .inl hc
        · exact .inr ⟨m2, (without_some hm2).2⟩
    · refine S1.frd m ((j.fr m).2 ?_)
      rcases hm with hc | ⟨m2, hm2⟩
      · exact .inl hc
      · exact .inr ⟨m2, (without_some hm2).2⟩
    · rcases getElem?_snoc _ _ _ _ hx with ⟨hx, hbl⟩ | ⟨rfl, rfl⟩
      · have hB2 : ∃ B2, (B2 = hv.length ∨ B2 ∈ bs) ∧ b < B2 ∧ B2 ≤ B ∧ B2 ≤ hv.length := by
          rcases hB with e | hB
          · exact ⟨hv.length, .inl rfl, hbl, by rw [e]; simp, Nat.le_refl _⟩
          · exact ⟨B, .inr hB, hb, Nat.le_refl _, S1.bnd B hB⟩
        obtain ⟨B2, q1, q2, q3, q4⟩ := hB2
        have hbk := S1.blk B2 q1 b x q2 hx
        cases x with
        | dead => exact (hcut b hbl).2.trans hbk
        | var cs =>
          obtain ⟨k2, et, fz, cells, a1, a2, a3, a4⟩ := hbk
          exact ⟨k2, et, fz, cells, (hcut b hbl).2.trans a1, a2, a3, hrepL q4 a4 q3⟩
        | vec ver sz rows =>
          rcases hbk with ⟨a1, a2, a3⟩ | ⟨k2, et, fz, cells, a1, a2, a3, a4, a5, a6⟩
          · exact .inl ⟨(hcut b hbl).2.trans a1, a2, a3⟩
          · exact .inr ⟨k2, et, fz, cells, (hcut b hbl).2.trans a1, a2, a3, a4, a5, fun i row hi => ⟨(a6 i row hi).1, hrepL (Nat.zero_le _) (a6 i row hi).2 (Nat.le_refl _)⟩⟩
      · rcases hB with eB | hB
        · exact ⟨k, e, (0, 0), z.cells, hφN, pw, noFz00 _, hrepL (Nat.le_refl _) R1 (by rw [eB]; simp)⟩
        · have := S1.bnd B hB; omega
  have htr : Tr w0 φ0 h0 w ⟨(upd φ hv.length (some k)).f, φ0.fr⟩ (hv ++ [Blk.var zc]) := by
    have T2 := j.tr.trans (T1.refr φ0.fr)
    refine ⟨T2.os, T2.tape, T2.output, T2.size, by simp; omega, fun m hm hmo => ⟨(T2.keep m hm hmo).1, fun b => ?_⟩, fun b cs hb => ?_, fun b hb ver sz rows hh => ?_, rfl⟩
    · by_cases h1 : b = hv.length
      · subst h1
        show (upd φ hv.length (some k)) hv.length ≠ some m
        rw [upd_same]; intro e; injection e with e; omega
      · show (upd φ hv.length (some k)) b ≠ some m
        rw [upd_ne _ _ h1]; exact (T2.keep m hm hmo).2 b
    · have hlt := idx_lt hb
      obtain ⟨⟨cs', e1⟩, e2⟩ := T2.var b cs hb
      exact ⟨⟨cs', by rw [List.getElem?_append_left (by omega)]; exact e1⟩, (upd_ne φ (some k) (by omega)).trans e2⟩
    · rw [List.getElem?_append_left (by omega)] at hh
      obtain ⟨v1, s1, r1, e1, e2, e3⟩ := T2.vec b hb ver sz rows hh
      refine ⟨v1, s1, r1, e1, e2, fun hv1 => ?_⟩
      obtain ⟨f1, f2, f3, f4⟩ := e3 hv1
      exact ⟨f1, f2, (upd_ne φ (some k) (by omega)).trans f3, f4⟩
  have hprom' : ∀ m, m ∈ js → ¬ On L m → gq P cfg base ops m (put env o.dst (.ptr hv.length 0)) (hv ++ [Blk.var zc]) = (dstAt ops m).map (get (put env o.dst (.ptr hv.length 0))) := by
    have hcl : ∀ m, afterB ops i m = true → On L m := fun m hm => j.clL i m pL hm
    intro m hm hnm
    clear j
    induction js with
    | nil => simp at hm
    | cons m2 ms ih =>
      obtain ⟨p1, p2⟩ := hprom
      rcases List.mem_cons.1 hm with rfl | hm
      · exact p1.resolve_left fun ha => hnm (hcl m ha)
      · exact ih p2 hm
  refine ⟨adopted φ φ0 hv.length k (without pk i), j.szL, by simp [j.szA], fun m hm => ?_, fun m hm hn => ?_, fun m hm => ⟨(j.jsq m hm).1, (honD m).2 (.inr (j.jsq m hm).2)⟩, fun m n hm hn => ?_, j.clL, hprom', j.dfr, j.sz, fun t ht => ?_, hsim, htr, fun b => Iff.rfl, fun m b hm => ?_, fun a b m ha hb => j.pinj a b m (without_some ha).2 (without_some hb).2, fun m hm hn d2 hd2 => ?_⟩
  · rcases j.sub m hm with e | ⟨e1, e2⟩
    · exact .inl ((honD m).2 (.inr e))
    · by_cases hmi : m = i
      · exact .inl ((honD m).2 (.inl hmi))
      · exact .inr ⟨e1, by simp [without, hmi, e2]⟩
  · rcases (honD m).1 hm with rfl | hm
    · exact absurd pL hn
    · exact j.ahead m hm hn
  · rcases (honD m).1 hm with rfl | hm
    · exact (honD n).2 (.inr (hdepD n hn))
    · exact (honD n).2 (.inr (j.clA m n hm hn))
  · by_cases hdt : o.dst = some t
    · rw [hdt, get_put_same, pd t (by rw [hdo, hdt])]
      exact .ptr _ _ _ _ (by simp) ⟨zc, hget⟩ hφN
    · rw [get_put_ne _ _ hdt]
      exact hrepC (Nat.le_refl _) ((j.rep t ht).tr T1 (Nat.le_refl _) T1.len) (by simp)
  · obtain ⟨e1, e2⟩ := without_some hm
    obtain ⟨p1, p2, p3⟩ := j.pnd m b e2
    exact ⟨p1, fun hc => ((honD m).1 hc).elim e1 p2, p3⟩
  · have hmi : m ≠ i := fun e => hn ((honD m).2 (.inl e))
    rw [get_put_ne]
    · exact j.flo m hm (fun hc => hn ((honD m).2 (.inr hc))) d2 hd2
    · have := R0.f1 m i hm hmi hlt
      rw [hdo, hd2] at this
      exact this
end
end Go.Proofs.Ytckjogpdnkocbaa.Den
namespace Go.Proofs.Ytckjogpdnkocbaa.Den

section
variable {P : Program} {cfg : Cfg} {C : CallFn} {w w' w0 : World} {φ φ' φ0 : Phi} {h h' h0 : Heap} {B B' base : Nat} {bs : List Nat} {env env' : Env} {nt : Nat} {act : Act} {ops : Array Oper} {L D : Array Bool} {js : List Nat} {pk : Nat → Option Nat} {Q : Exit → Act → World → Prop}

def unl (ops : Array Oper) (L : Array Bool) : Nat := ((List.range ops.size).filter fun i => !(L.getD i false)).length

theorem filter_lt {p q : Nat → Bool} : ∀ {l : List Nat}, (∀ j, q j = true → p j = true) → ∀ {i : Nat}, i ∈ l → p i = true → q i = false → (l.filter q).length < (l.filter p).length
  | [], _, _, hi, _, _ => absurd hi (by simp)
  | a :: l, hqp, i, hi, hp, hq => by
    have hle : ∀ l : List Nat, (l.filter q).length ≤ (l.filter p).length := by
      intro l
      induction l with
      | nil => simp
      | cons b l ih =>
        by_cases hqb : q b = true
        · simp [hqb, hqp b hqb, ih]
        · by_cases hpb : p b = true
          · simp [hqb, hpb]; omega
          · simp [hqb, hpb, ih]
    rcases List.mem_cons.1 hi with rfl | hi
    · simp [hp, hq]
      have := hle l; omega
    · have := filter_lt hqp hi hp hq
      by_cases hqa : q a = true
      · simp [hqa, hqp a hqa, this]
      · by_cases hpa : p a = true
        · simp [hqa, hpa]; omega
        · simp [hqa, hpa, this]

theorem unl_set (hs : L.size = ops.size) {i : Nat} (hi : i < ops.size) (hn : ¬ On L i) : unl ops (L.setIfInBounds i true) < unl ops L := by
  have hon : ∀ k, On (L.setIfInBounds i true) k ↔ k = i ∨ On L k := fun k => on_set (by omega)
  unfold unl
  refine filter_lt (i := i) (fun j hj => ?_) (List.mem_range.2 hi) ?_ ?_
  · simp only [Bool.not_eq_true', Bool.eq_false_iff] at hj ⊢
    exact fun hc => hj ((hon j).2 (.inr hc))
  · simp only [Bool.not_eq_true', Bool.eq_false_iff]
    exact hn
  · have := (hon i).2 (.inl rfl)
    unfold On at this
    rw [this]; rfl

theorem unl_pos {i : Nat} (hi : i < ops.size) (hn : ¬ On L i) : 0 < unl ops L := by
  unfold unl
  apply List.length_pos_of_mem (a := i)
  rw [List.mem_filter]
  refine ⟨List.mem_range.2 hi, ?_⟩
  simp only [Bool.not_eq_true', Bool.eq_false_iff]
  exact hn

theorem ready_some (R0 : Region0 ops nt) (hs : L.size = ops.size) : ∀ i, i < ops.size → ¬ On L i → Region.ready .any ops L ≠ [] := by
  intro i
  induction i using Nat.strongRecOn with
  | ind i ih =>
    intro hi hn
    by_cases hall : ∀ k, afterB ops i k = true → On L k
    · have := (ready_iff (j := i) hs).2 ⟨hi, hn, hall⟩
      intro e; rw [e] at this; simp at this
    · simp only [Classical.not_forall] at hall
      obtain ⟨k, hk, hnk⟩ := hall
      have hlt := R0.wf i k hi hk
      exact ih k hlt (by omega) hnk

theorem wpAny_mk {fuel : Nat} (h0 : Region.ready .any ops L = [] → Q .normal act w) (h1 : ∀ i, i ∈ Region.ready .any ops L → ∃ f, fuel = f + 1 ∧ wpOp P ops Q i (wpAny P .any ops Q f (L.setIfInBounds i true)) act w) : wpAny P .any ops Q fuel L act w := by
  cases fuel with
  | zero =>
    have he : Region.ready .any ops L = [] := by
      cases hr : Region.ready .any ops L with
      | nil => rfl
      | cons i r =>
        obtain ⟨f, hf, _⟩ := h1 i (by rw [hr]; simp)
        exact absurd hf (by simp)
    exact ⟨he, h0 he⟩
  | succ f =>
    refine ⟨h0, fun i hi => ?_⟩
    obtain ⟨f', hf, h2⟩ := h1 i hi
    injection hf with hf
    subst hf
    exact h2

theorem withF_size : (withF ops L).size = ops.size := by simp [withF]
theorem on_withF (hs : L.size = ops.size) {i : Nat} : On (withF ops L) i ↔ i < ops.size ∧ (On L i ∨ isFat ops i = true) := by
  unfold On withF
  by_cases hi : i < ops.size
  · have : i < L.size := by omega
    simp [hi, this]
  · simp [hi]
theorem on_setF {L : Array Bool} {i j : Nat} : On (L.setIfInBounds i false) j ↔ j ≠ i ∧ On L j := by
  unfold On
  by_cases hij : i = j
  · subst hij
    by_cases hi : i < L.size
    · simp [hi]
    · simp [hi]
  · simp only [Array.getD_eq_getD_getElem?, Array.getElem?_setIfInBounds_ne hij]
    exact ⟨fun h => ⟨fun e => hij e.symm, h⟩, fun h => h.2⟩

theorem floats_ok (P : Program) (cfg : Cfg) (C : CallFn) (base : Nat) : ∀ (ord : List (Nat × Knd)) (D : Array Bool) (js : List Nat) (env : Env) (h : Heap) (s : St), D.size = ops.size → ordOk ops ord D = true → stepDraw P cfg C base ops ord js env h = some s →
    ∀ i, isFat ops i = true → ¬ On D i → ∃ o e ti z, ops[i]? = some o ∧ o.guard = none ∧ o.op = .alloc e ∧ P.info? e = some ti ∧ ti.zero = some z
  | [], D, _, _, _, _, hs, ho, _, i, hf, hn => by
    simp only [ordOk] at ho
    exact absurd (List.all_eq_true.1 ho i (List.mem_range.2 (fat_lt hf))) hn
  | (m, k) :: r, D, js, env, h, s, hs, ho, hd, i, hf, hn => by
    simp only [ordOk, Bool.and_eq_true] at ho
    obtain ⟨⟨o1, o2⟩, o3⟩ := ho
    have hrd : m ∈ Region.ready .any ops D := by simpa using o1
    have hm := ((ready_iff hs).1 hrd).1
    by_cases hmi : m = i
    · subst hmi
      cases k with
      | q =>
        simp only [kndOk] at o2
        rw [q_not_f o2] at hf
        exact absurd hf (by simp)
      | e =>
        simp only [kndOk, hf, Bool.not_true, Bool.and_false, Bool.false_and] at o2
        exact absurd o2 (by simp)
      | f =>
        have hom : ops[m]? = some ops[m] := Array.getElem?_eq_getElem hm
        simp only [kndOk, hom, Bool.and_eq_true] at o2
        have hgd : ops[m].guard = none := by simpa using o2.1.2
        simp only [stepDraw, hom] at hd
        cases hst : stepOp P cfg C base ops[m].op env h with
        | none => simp [hst, bindS] at hd
        | some rr =>
          unfold isFat at hf
          simp only [hom] at hf
          cases hop : ops[m].op <;> rw [hop] at hf <;> first | (simp [isF] at hf; done) | skip
          rename_i e
          rw [hop] at hst
          simp only [stepOp] at hst
          cases ht : tab P e with
          | none => simp [ht] at hst
          | some ti =>
            obtain ⟨i2, d2, h1, h2, rfl⟩ := tab_inv ht
            simp only [ht] at hst
            cases hz : (tiOf i2 d2).zero with
            | none => simp [hz] at hst
            | some z =>
              obtain ⟨v, hv, _⟩ := zero_inv hz
              exact ⟨ops[m], e, i2, v, hom, hgd, hop, h1, hv⟩
    · have hn2 : ¬ On (D.setIfInBounds m true) i := fun hc => ((on_set (by omega)).1 hc).elim (fun e => hmi e.symm) hn
      have hs2 : (D.setIfInBounds m true).size = ops.size := by simpa using hs
      cases k with
      | q =>
        simp only [stepDraw] at hd
        split at hd
        · exact floats_ok P cfg C base r _ _ _ _ s hs2 o3 hd i hf hn2
        · exact absurd hd (by simp)
      | e =>
        simp only [stepDraw] at hd
        split at hd
        · split at hd
          · rename_i o _ _ _
            cases hst : stepOp P cfg C base o.op env h with
            | none => simp [hst, bindS] at hd
            | some rr =>
              simp only [hst, bindS, ifProm_some] at hd
              exact floats_ok P cfg C base r _ _ _ _ s hs2 o3 hd.2 i hf hn2
          · simp only [ifProm_some] at hd
            exact floats_ok P cfg C base r _ _ _ _ s hs2 o3 hd.2 i hf hn2
          · exact absurd hd (by simp)
        · exact absurd hd (by simp)
      | f =>
        simp only [stepDraw] at hd
        split at hd
        · rename_i o _
          cases hst : stepOp P cfg C base o.op env h with
          | none => simp [hst, bindS] at hd
          | some rr =>
            simp only [hst, bindS, ifProm_some] at hd
            exact floats_ok P cfg C base r _ _ _ _ s hs2 o3 hd.2 i hf hn2
        · exact absurd hd (by simp)

theorem draw_ok (R0 : Region0 ops nt) (S0 : Sim bs w0 φ0 h0) (hC : CallOk P C) (hbs : ∀ B, B ∈ bs → B ≤ base) {s : St} (hQ : ∀ act' w' φ', Tr w0 φ0 h0 w' φ' s.heap → Sim bs w' φ' s.heap → RelE w' φ' s.heap nt s.env act' → Q .normal act' w') :
    ∀ (fuel : Nat) (ord : List (Nat × Knd)) {L D : Array Bool} {js : List Nat} {pk : Nat → Option Nat} {env : Env} {h : Heap} {act : Act} {w : World} {φ : Phi}, J P cfg base nt bs ops w0 φ0 h0 L D js pk env h act w φ → ordOk ops ord D = true → stepDraw P cfg C base ops ord js env h = some s →
      unl ops L ≤ fuel → wpAny P .any ops Q fuel L act w := by
  intro fuel
  induction fuel using Nat.strongRecOn with
  | ind fuel IHf =>
    intro ord
    induction ord with
    | nil =>
      intro L D js pk env h act w φ j ho hd hu
      have hallD : ∀ i, i < ops.size → On D i := fun i hi => by
        simp only [ordOk] at ho
        exact List.all_eq_true.1 ho i (List.mem_range.2 hi)
      have hd' := hd
      simp only [stepDraw, Option.some.injEq] at hd; subst hd
      refine wpAny_mk (fun he => ?_) fun i hi => ?_
      · have hallL : ∀ i, i < ops.size → On L i := fun i hi => Classical.byContradiction fun hn => ready_some R0 j.szL i hi hn he
        have hpk : ∀ i, pk i = none := fun i => by
          cases hp : pk i with
          | none => rfl
          | some k =>
            obtain ⟨_, p2, p3, _⟩ := j.pnd i k hp
            exact absurd (hallD i (fat_lt p3)) p2
        have hφ : φ = ⟨φ.f, φ0.fr⟩ := by
          have : φ.fr = φ0.fr := funext fun k => propext ((j.fr k).trans ⟨fun hc => hc.elim id fun ⟨i, hi⟩ => by rw [hpk i] at hi; exact absurd hi (by simp), .inl⟩)
          rw [← this]
        have jt := j.tr; have js' := j.sim
        refine hQ act w φ (by rw [hφ]; exact jt) js' ⟨j.dfr, j.sz, fun t => j.rep t fun i hi hn => absurd (hallL i (qat_lt (j.jsq i hi).1)) hn⟩
      · obtain ⟨hlt, hn, _⟩ := (ready_iff j.szL).1 hi
        have hup := unl_set j.szL hlt hn
        obtain ⟨f, rfl⟩ : ∃ f, fuel = f + 1 := ⟨fuel - 1, by omega⟩
        exact ⟨f, rfl, j.late R0 hbs hi (hallD i hlt) fun act' w' φ' j' => IHf f (by omega) [] j' ho hd' (by omega)⟩
    | cons p r IHo =>
      obtain ⟨i, k⟩ := p
      intro L D js pk env h act w φ j ho hd hu
      have ho' := ho
      have hd' := hd
      simp only [ordOk, Bool.and_eq_true] at ho
      obtain ⟨⟨o1, o2⟩, o3⟩ := ho
      have hrD : i ∈ Region.ready .any ops D := by simpa using o1
      obtain ⟨hiD, hniD, hdepD⟩ := (ready_iff j.szA).1 hrD
      have hoi : ops[i]? = some ops[i] := Array.getElem?_eq_getElem hiD
      -- a step that is not the next one told
      have other : ∀ m, m ∈ Region.ready .any ops L → (On D m ∨ isFat ops m = true) → ∃ f, fuel = f + 1 ∧ wpOp P ops Q m (wpAny P .any ops Q f (L.setIfInBounds m true)) act w := by
        intro m hm hcase
        obtain ⟨hlt, hn, _⟩ := (ready_iff j.szL).1 hm
        have hup := unl_set j.szL hlt hn
        obtain ⟨f, rfl⟩ : ∃ f, fuel = f + 1 := ⟨fuel - 1, by omega⟩
        refine ⟨f, rfl, ?_⟩
        by_cases hDm : On D m
        · exact j.late R0 hbs hm hDm fun act' w' φ' j' => IHf f (by omega) _ j' ho' hd' (by omega)
        · have hf := hcase.resolve_left hDm
          obtain ⟨o, e, ti, z, q1, q2, q3, q4, q5⟩ := floats_ok P cfg C base _ D js env h s j.szA ho' hd' m hf hDm
          exact j.float R0 hm hf hDm q1 q2 q3 q4 q5 fun act' w' φ' pk' _ j' => IHf f (by omega) _ j' ho' hd' (by omega)
      cases k with
      | q =>
        simp only [kndOk] at o2
        simp only [stepDraw] at hd
        cases hg : gq P cfg base ops i env h with
        | none => simp [hg] at hd
        | some v =>
          simp only [hg] at hd
          exact IHo (j.early R0 hrD o2 hg) o3 hd hu
      | e =>
        simp only [kndOk, Bool.and_eq_true, Bool.not_eq_true'] at o2
        obtain ⟨⟨q1, q2⟩, q3⟩ := o2
        have hniL : ¬ On L i := fun hc => by
          rcases j.sub i hc with e | ⟨e, _⟩
          · exact hniD e
          · rw [q2] at e; exact absurd e (by simp)
        refine wpAny_mk (fun he => absurd he (ready_some R0 j.szL i hiD hniL)) fun m hm => ?_
        obtain ⟨hlt, hn, hdep⟩ := (ready_iff j.szL).1 hm
        by_cases hcase : On D m ∨ isFat ops m = true
        · exact other m hm hcase
        · have hmF : m ∈ Region.ready .any ops (withF ops D) := (ready_iff withF_size).2 ⟨hlt, fun hc => hcase ((on_withF j.szA).1 hc).2, fun n hn2 => by
            have hLn := hdep n hn2
            refine (on_withF j.szA).2 ⟨by have := hLn.lt; rw [j.szL] at this; exact this, ?_⟩
            exact (j.sub n hLn).imp id fun e => e.1⟩
          have hmi : m = i := Nat.eq_of_beq_eq_true (List.all_eq_true.1 q3 m hmF)
          subst hmi
          have hup := unl_set j.szL hlt hn
          obtain ⟨f, rfl⟩ : ∃ f, fuel = f + 1 := ⟨fuel - 1, by omega⟩
          refine ⟨f, rfl, ?_⟩
          simp only [stepDraw, hoi] at hd
          cases hg : guardOk ops env ops[m].guard with
          | none => simp [hg] at hd
          | some b =>
            cases b with
            | false =>
              simp only [hg, ifProm_some] at hd
              exact j.sync R0 hC hbs hm hrD q1 q2 hoi (r := (.undef, h)) (.inr ⟨hg, rfl⟩) hd.1 fun act' w' φ' j' => IHf f (by omega) _ j' o3 hd.2 (by omega)
            | true =>
              simp only [hg] at hd
              cases hst : stepOp P cfg C base ops[m].op env h with
              | none => simp [hst, bindS] at hd
              | some rr =>
                simp only [hst, bindS, ifProm_some] at hd
                exact j.sync R0 hC hbs hm hrD q1 q2 hoi (r := rr) (.inl ⟨hg, hst⟩) hd.1 fun act' w' φ' j' => IHf f (by omega) _ j' o3 hd.2 (by omega)
      | f =>
        simp only [kndOk, Bool.and_eq_true] at o2
        obtain ⟨⟨q1, q2⟩, q3⟩ := o2
        cases hp : pk i with
        | some kk =>
          simp only [stepDraw, hoi] at hd
          cases hst : stepOp P cfg C base ops[i].op env h with
          | none => simp [hst, bindS] at hd
          | some rr =>
            simp only [hst, bindS, ifProm_some] at hd
            obtain ⟨φ', j'⟩ := j.adopt (C := C) R0 S0 hrD q1 hoi hst hd.1 hp
            exact IHo j' o3 hd.2 hu
        | none =>
          have hniL : ¬ On L i := fun hc => by
            rcases j.sub i hc with e | ⟨_, e⟩
            · exact hniD e
            · exact e hp
          refine wpAny_mk (fun he => absurd he (ready_some R0 j.szL i hiD hniL)) fun m hm => ?_
          obtain ⟨hlt, hn, hdep⟩ := (ready_iff j.szL).1 hm
          by_cases hcase : On D m ∨ isFat ops m = true
          · exact other m hm hcase
          · have hmF : m ∈ Region.ready .any ops ((withF ops D).setIfInBounds i false) := (ready_iff (by simpa using withF_size)).2 ⟨hlt, fun hc => hcase ((on_withF j.szA).1 (on_setF.1 hc).2).2, fun n hn2 => by
              have hLn := hdep n hn2
              refine on_setF.2 ⟨fun e => hniL (e ▸ hLn), (on_withF j.szA).2 ⟨by have := hLn.lt; rw [j.szL] at this; exact this, ?_⟩⟩
              exact (j.sub n hLn).imp id fun e => e.1⟩
            have hmi : m = i := Nat.eq_of_beq_eq_true (List.all_eq_true.1 q3 m hmF)
            subst hmi
            exact absurd (.inr q1) hcase
end
end Go.Proofs.Ytckjogpdnkocbaa.Den
namespace Go.Proofs.Ytckjogpdnkocbaa.Den

section
variable {P : Program} {cfg : Cfg} {C : CallFn} {w w' w0 : World} {φ φ' φ0 : Phi} {h h' h0 : Heap} {B B' base : Nat} {bs : List Nat} {env env' : Env} {nt : Nat} {act : Act} {ops : Array Oper} {Q : Exit → Act → World → Prop}

theorem hideF_get : ∀ (l : List Oper) (env : Env) (t : Nat), (get (hideF l env) t = .undef) ∨ (get (hideF l env) t = get env t ∧ ∀ o, o ∈ l → isF o.op = true → o.dst ≠ some t)
  | [], env, t => .inr ⟨rfl, fun o ho => absurd ho (by simp)⟩
  | o :: l, env, t => by
    unfold hideF
    rcases hideF_get l (if isF o.op = true then put env o.dst .undef else env) t with e | ⟨e1, e2⟩
    · exact .inl e
    · by_cases hf : isF o.op = true
      · rw [if_pos hf] at e1
        by_cases hd : o.dst = some t
        · rw [hd, get_put_same] at e1
          refine .inl ?_
          rw [if_pos hf, hd]; exact e1
        · rw [get_put_ne _ _ hd] at e1
          refine .inr ⟨by rw [if_pos hf]; exact e1, fun o2 ho2 hf2 => ?_⟩
          rcases List.mem_cons.1 ho2 with rfl | ho2
          · exact hd
          · exact e2 o2 ho2 hf2
      · rw [if_neg hf] at e1
        refine .inr ⟨by rw [if_neg hf]; exact e1, fun o2 ho2 hf2 => ?_⟩
        rcases List.mem_cons.1 ho2 with rfl | ho2
        · exact absurd hf2 hf
        · exact e2 o2 ho2 hf2

theorem off_replicate (n i : Nat) : ¬ On (Array.replicate n false) i := by
  unfold On
  by_cases hi : i < n
  · simp [hi]
  · simp [hi]

theorem drawn_ok (hm : P.follows .mixedOrders = true) (hC : CallOk P C) (hbs : ∀ B, B ∈ bs → B ≤ base) {id : Nat} {ord : List (Nat × Knd)} (hp : plan ops = some ord) (R : RelE w φ h nt env act) (S : Sim bs w φ h) (hd : ∀ o, o ∈ ops.toList → okDst nt o.dst = true)
    {s : St} (hs : stepDraw P cfg C base ops ord [] (hideF ops.toList env) h = some s) (hQ : ∀ act' w' φ', Tr w φ h w' φ' s.heap → Sim bs w' φ' s.heap → RelE w' φ' s.heap nt s.env act' → Q .normal act' w') : (Code.region id ops true).wp P Q act w := by
  unfold plan at hp
  split at hp
  case isFalse => exact absurd hp (by simp)
  case isTrue hok =>
  injection hp with hp
  rw [Bool.and_eq_true, hp] at hok
  have R0 := region0 hok.2 hd
  refine wp_region_any hm ?_
  have T0 : Tr w φ h { w with drawn := w.drawn + 1 } φ h := ⟨rfl, rfl, rfl, Nat.le_refl _, Nat.le_refl _, fun _ _ hφ => ⟨rfl, hφ⟩, fun _ cs hc => ⟨⟨cs, hc⟩, rfl⟩, fun _ _ ver sz rows hh => ⟨ver, sz, rows, hh, Nat.le_refl _, fun _ => ⟨rfl, rfl, rfl, fun _ _ => rfl⟩⟩, rfl⟩
  have S0 : Sim bs { w with drawn := w.drawn + 1 } φ h := S.step T0 S.inj S.dom fun _ _ hx => .inl ⟨hx, rfl, fun _ _ => rfl⟩
  have R1 := R.tr T0
  refine draw_ok R0 S0 hC hbs (s := s) (fun act' w' φ' T S' R' => hQ act' w' φ' (T0.trans T) S' R') ops.size ord (pk := fun _ => none) (js := []) (D := Array.replicate ops.size false) (φ := φ) ?_ hok.1 hs ?_
  · refine ⟨by simp, by simp, fun i hi => absurd hi (off_replicate _ _), fun i hi => absurd hi (off_replicate _ _), fun i hi => absurd hi (by simp), fun i j hi => absurd hi (off_replicate _ _), fun i j hi => absurd hi (off_replicate _ _), fun i hi => absurd hi (by simp), R.defers, R.size, fun t _ => ?_, S0, Tr.refl _ _ _, fun k => ⟨.inl, fun hc => hc.elim (fun e => e) fun ⟨i, hi⟩ => absurd hi (by simp)⟩, fun i k hi => absurd hi (by simp), fun i j k hi => absurd hi (by simp), fun i hf _ d hdi => ?_⟩
    · rcases hideF_get ops.toList env t with e | ⟨e1, _⟩
      · rw [e]; exact .undef _ _
      · rw [e1]; exact R1.rep t
    · have ho : ops[i]? = some ops[i]! := by
        rw [Array.getElem!_eq_getD, Array.getD_eq_getD_getElem?]
        have := fat_lt hf
        simp [this]
      rcases hideF_get ops.toList env d with e | ⟨_, e2⟩
      · exact e
      · unfold isFat at hf
        simp only [ho] at hf
        refine absurd ?_ (e2 ops[i]! (by simpa using Array.mem_of_getElem? ho) hf)
        simpa [dstAt, ho] using hdi
  · unfold unl
    exact Nat.le_trans (List.length_filter_le _ _) (by simp)

/-- What the program must meet. -/
structure ProgOk (P : Program) : Prop where
  mix : P.follows .mixedOrders = true
  name : ∀ (f : FuncId) (fn : Func), P.funcs[f]? = some fn → (fn.name == "runtime.NumGoroutine") = false

/-- What is told of a function without its body. -/
def OrcOk (P : Program) (cfg : Cfg) : Prop := ∀ f g, cfg.orc f = some g → ∀ args r, g args = some r →
  resR r = true ∧ ∀ bs w φ h vals, Sim bs w φ h → RepL w φ h h.length args vals → Called P f vals.toArray w (Rets bs w φ h (r, h))

def toE : X → Exit
  | .normal => .normal
  | .exit id => .exit id
  | .ret => .ret

def Post (bs : List Nat) (nt : Nat) (w : World) (φ : Phi) (h : Heap) (o : X × St) : Exit → Act → World → Prop := fun e act' w' =>
  e = toE o.1 ∧ ∃ φ', Tr w φ h w' φ' o.2.heap ∧ Sim bs w' φ' o.2.heap ∧ RelE w' φ' o.2.heap nt o.2.env act'

def ExecOk (P : Program) (cfg : Cfg) (k : Nat) : Prop := ∀ base nt c env h o, exec P cfg k base nt c env h = some o → okCode nt c = true → ∀ bs w φ act, (∀ B, B ∈ bs → B ≤ base) → RelE w φ h nt env act → Sim bs w φ h →
  c.wp P (Post bs nt w φ h o) act w

theorem Post.after (T : Tr w φ h w' φ' h') {o : X × St} {e : Exit} {a : Act} {w2 : World} (hp : Post bs nt w' φ' h' o e a w2) : Post bs nt w φ h o e a w2 := by
  obtain ⟨e1, φ2, T2, S2, R2⟩ := hp
  exact ⟨e1, φ2, T.trans T2, S2, R2⟩

theorem loop_rounds {c : Code} : ∀ k, (∀ k', k' < k → ExecOk P cfg k') → ∀ base nt env h o, exec P cfg k base nt (.loop c) env h = some o → okCode nt c = true → ∀ bs w φ act, (∀ B, B ∈ bs → B ≤ base) → RelE w φ h nt env act → Sim bs w φ h →
    Code.rounds P c (Post bs nt w φ h o) k act w
  | 0, _, base, nt, env, h, o, hs, _, bs, w, φ, act, _, _, _ => by simp [exec] at hs
  | k + 1, IH, base, nt, env, h, o, hs, hc, bs, w, φ, act, hbs, R, S => by
    simp only [exec] at hs
    rw [rounds_succ]
    cases h1 : exec P cfg k base nt c env h with
    | none => simp [h1, bindX] at hs
    | some o1 =>
      obtain ⟨x1, s1⟩ := o1
      have hw := IH k (Nat.lt_succ_self k) base nt c env h _ h1 hc bs w φ act hbs R S
      refine Code.wp_mono ?_ hw
      rintro e a w1 ⟨rfl, φ1, T1, S1, R1⟩
      rw [h1] at hs
      cases x1 with
      | normal =>
        simp only [bindX] at hs
        have := loop_rounds k (fun k' hk' => IH k' (by omega)) base nt s1.env s1.heap o hs hc bs w1 φ1 a hbs R1 S1
        show Code.rounds P c (Post bs nt w φ h o) k a w1
        have hmono : ∀ n a w2, Code.rounds P c (Post bs nt w1 φ1 s1.heap o) n a w2 → Code.rounds P c (Post bs nt w φ h o) n a w2 := by
          intro n
          induction n with
          | zero => intro a w2 hh; exact hh
          | succ n ih =>
            intro a w2 hh
            rw [rounds_succ] at hh ⊢
            refine Code.wp_mono (fun e a3 w3 hq => ?_) hh
            cases e with
            | normal => exact ih _ _ hq
            | _ => exact Post.after T1 hq
        exact hmono k a w1 this
      | exit id =>
        simp only [bindX, Option.some.injEq] at hs; subst hs
        exact ⟨rfl, φ1, T1, S1, R1⟩
      | ret =>
        simp only [bindX, Option.some.injEq] at hs; subst hs
        exact ⟨rfl, φ1, T1, S1, R1⟩

theorem exec_step (hP : ProgOk P) (k : Nat) (hC : CallOk P (callBy P cfg (exec P cfg k))) (IH : ∀ k', k' < k + 1 → ExecOk P cfg k') : ExecOk P cfg (k + 1) := by
  intro base nt c env h o hs hc bs w φ act hbs R S
  have IHk := IH k (Nat.lt_succ_self k)
  cases c with
  | skip =>
    simp only [exec, Option.some.injEq] at hs; subst hs
    exact wp_skip ⟨rfl, φ, Tr.refl _ _ _, S, R⟩
  | seq a b =>
    simp only [exec] at hs
    simp only [okCode, Bool.and_eq_true] at hc
    cases h1 : exec P cfg k base nt a env h with
    | none => simp [h1, bindX] at hs
    | some o1 =>
      obtain ⟨x1, s1⟩ := o1
      rw [h1] at hs
      refine wp_seq (Code.wp_mono ?_ (IHk base nt a env h _ h1 hc.1 bs w φ act hbs R S))
      rintro e a1 w1 ⟨rfl, φ1, T1, S1, R1⟩
      cases x1 with
      | normal =>
        simp only [bindX] at hs
        exact Code.wp_mono (fun e a2 w2 hq => Post.after T1 hq) (IHk base nt b s1.env s1.heap o hs hc.2 bs w1 φ1 a1 hbs R1 S1)
      | exit id =>
        simp only [bindX, Option.some.injEq] at hs; subst hs
        exact ⟨rfl, φ1, T1, S1, R1⟩
      | ret =>
        simp only [bindX, Option.some.injEq] at hs; subst hs
        exact ⟨rfl, φ1, T1, S1, R1⟩
  | cond x a b =>
    simp only [exec] at hs
    simp only [okCode, Bool.and_eq_true] at hc
    have hx := R.ev x
    cases he : ev env x with
    | bool t =>
      rw [he] at hx hs
      simp only at hs
      have hv : act.eval x = .bool t := by
        generalize act.eval x = v at hx
        cases hx; rfl
      refine wp_cond hv ?_
      cases t with
      | true => exact IHk base nt a env h o (by simpa using hs) hc.1 bs w φ act hbs R S
      | false => exact IHk base nt b env h o (by simpa using hs) hc.2 bs w φ act hbs R S
    | _ => rw [he] at hs; exact absurd hs (by simp)
  | block id c =>
    simp only [exec] at hs
    simp only [okCode] at hc
    cases h1 : exec P cfg k base nt c env h with
    | none => simp [h1, outB] at hs
    | some o1 =>
      obtain ⟨x1, s1⟩ := o1
      rw [h1] at hs
      refine wp_block (Code.wp_mono ?_ (IHk base nt c env h _ h1 hc bs w φ act hbs R S))
      rintro e a1 w1 ⟨rfl, φ1, T1, S1, R1⟩
      cases x1 with
      | normal =>
        simp only [outB, Option.some.injEq] at hs; subst hs
        exact ⟨rfl, φ1, T1, S1, R1⟩
      | exit i =>
        simp only [outB] at hs
        show (if i = id then Post bs nt w φ h o .normal a1 w1 else Post bs nt w φ h o (.exit i) a1 w1)
        split at hs
        · rename_i hi
          injection hs with hs; subst hs
          rw [if_pos hi]
          exact ⟨rfl, φ1, T1, S1, R1⟩
        · rename_i hi
          injection hs with hs; subst hs
          rw [if_neg hi]
          exact ⟨rfl, φ1, T1, S1, R1⟩
      | ret =>
        simp only [outB, Option.some.injEq] at hs; subst hs
        exact ⟨rfl, φ1, T1, S1, R1⟩
  | loop c =>
    simp only [okCode] at hc
    exact wp_loop_rounds (k + 1) (loop_rounds (k + 1) IH base nt env h o hs hc bs w φ act hbs R S)
  | exit id =>
    simp only [exec, Option.some.injEq] at hs; subst hs
    exact wp_exit ⟨rfl, φ, Tr.refl _ _ _, S, R⟩
  | ret =>
    simp only [exec, Option.some.injEq] at hs; subst hs
    exact wp_ret ⟨rfl, φ, Tr.refl _ _ _, S, R⟩
  | region id ops drawn =>
    simp only [okCode] at hc
    have hd : ∀ o, o ∈ ops.toList → okDst nt o.dst = true := fun o ho => List.all_eq_true.1 hc o ho
    cases drawn with
    | false =>
      simp only [exec] at hs
      cases h1 : stepOps P cfg (callBy P cfg (exec P cfg k)) base nt ops ops.toList env h with
      | none => simp [h1, toX] at hs
      | some s =>
        simp only [h1, toX, Option.some.injEq] at hs; subst hs
        refine wp_region ?_
        have := wpOps_eq_wpList (P := P) (ops := ops) (Q := Post bs nt w φ h (.normal, s)) ops.toList 0 (fun j => by simp)
        rw [List.range_eq_range', ← Array.length_toList, this]
        exact stepOps_ok hC hbs R S hd h1 fun act' w' φ' T S' R' => ⟨rfl, φ', T, S', R'⟩
    | true =>
      simp only [exec] at hs
      split at hs
      · rename_i ord hp
        cases h1 : stepDraw P cfg (callBy P cfg (exec P cfg k)) base ops ord [] (hideF ops.toList env) h with
        | none => simp [h1, toX] at hs
        | some s =>
          simp only [h1, toX, Option.some.injEq] at hs; subst hs
          exact drawn_ok hP.mix hC hbs hp R S hd h1 fun act' w' φ' T S' R' => ⟨rfl, φ', T, S', R'⟩
      · exact absurd hs (by simp)
  | _ => simp [exec] at hs
end
end Go.Proofs.Ytckjogpdnkocbaa.Den
namespace Go.Proofs.Ytckjogpdnkocbaa.Den

section
variable {P : Program} {cfg : Cfg} {C : CallFn} {w w' w0 : World} {φ φ' φ0 : Phi} {h h' h0 : Heap} {B B' base : Nat} {bs : List Nat} {env env' : Env} {nt : Nat} {act : Act} {ops : Array Oper} {Q : Exit → Act → World → Prop}

theorem initEnv_get : ∀ (as : List A) (i t : Nat), get (initEnv i as) t = if i ≤ t ∧ t < i + as.length then (as[t - i]?).getD .undef else .undef
  | [], i, t => by
    simp only [initEnv, get, List.length_nil]
    rw [if_neg (by omega)]
  | a :: as, i, t => by
    simp only [initEnv, get]
    split
    · rename_i e; subst e
      rw [if_pos ⟨Nat.le_refl _, by simp⟩]; simp
    · rename_i hne
      rw [initEnv_get as (i + 1) t]
      by_cases hc : i + 1 ≤ t ∧ t < i + 1 + as.length
      · rw [if_pos hc, if_pos ⟨by omega, by simp; omega⟩]
        rw [show t - i = (t - (i + 1)) + 1 by omega]; simp
      · rw [if_neg hc, if_neg (by simp; omega)]

theorem init_rel {args : List A} {vals : List Value} (hr : RepL w φ h h.length args vals) (hn : args.length ≤ nt) : RelE w φ h nt (initEnv 0 args) { tmps := vals.toArray ++ Array.replicate (nt - vals.toArray.size) undef, defers := [] } := by
  have hl := hr.length_eq
  refine ⟨rfl, by simp; omega, fun t => ?_⟩
  rw [initEnv_get]
  split
  · rename_i hc
    have hlt : t < args.length := by omega
    obtain ⟨v, hv, hrv⟩ := hr.get t args[t] (List.getElem?_eq_getElem hlt)
    have e1 : (args[t - 0]?).getD .undef = args[t] := by simp [hlt]
    have e2 : (vals.toArray ++ Array.replicate (nt - vals.toArray.size) undef).getD t undef = v := by
      rw [Array.getD_eq_getD_getElem?, Array.getElem?_append_left (by simp; omega)]
      simp [hv]
    rw [e1, e2]; exact hrv
  · exact .undef _ _

theorem ret1_res {own : Bool} {h new h1 new1 : Heap} {a a' : A} (hs : ret1 own 0 h new a = some (a', h1, new1)) (hn : ∀ (b : Nat) cs, new[b]? ≠ some (Blk.var cs)) : res1 a' = true ∧ ∀ (b : Nat) cs, new1[b]? ≠ some (Blk.var cs) := by
  unfold ret1 at hs
  split at hs
  · rw [if_neg (by omega)] at hs
    split at hs
    · split at hs
      · split at hs
        · simp only [Option.some.injEq, Prod.mk.injEq] at hs
          obtain ⟨rfl, rfl, rfl⟩ := hs
          refine ⟨rfl, fun b cs hb => ?_⟩
          rcases getElem?_snoc _ _ _ _ hb with ⟨e, _⟩ | ⟨_, e⟩
          · exact hn b cs e
          · exact absurd e (by simp)
        · simp only [Option.some.injEq, Prod.mk.injEq] at hs
          obtain ⟨rfl, rfl, rfl⟩ := hs
          exact ⟨rfl, hn⟩
      · exact absurd hs (by simp)
    · exact absurd hs (by simp)
  · rw [if_neg (by omega)] at hs
    exact absurd hs (by simp)
  · split at hs
    · rename_i hp
      simp only [Option.some.injEq, Prod.mk.injEq] at hs
      obtain ⟨rfl, rfl, rfl⟩ := hs
      exact ⟨by unfold res1; split <;> first | rfl | exact hp, hn⟩
    · exact absurd hs (by simp)

theorem retL_res {own : Bool} : ∀ {as as' : List A} {h new h1 new1 : Heap} (_ : retL own 0 h new as = some (as', h1, new1)) (_ : ∀ (b : Nat) cs, new[b]? ≠ some (Blk.var cs)), as'.all res1 = true ∧ ∀ (b : Nat) cs, new1[b]? ≠ some (Blk.var cs)
  | [], _, h, new, _, _, hs, hn => by
    simp only [retL, Option.some.injEq, Prod.mk.injEq] at hs
    obtain ⟨rfl, rfl, rfl⟩ := hs
    exact ⟨rfl, hn⟩
  | a :: as, _, h, new, _, _, hs, hn => by
    simp only [retL] at hs
    cases h1 : ret1 own 0 h new a with
    | none => simp [h1] at hs
    | some p =>
      obtain ⟨a1, hc1, new1⟩ := p
      simp only [h1] at hs
      cases h2 : retL own 0 hc1 new1 as with
      | none => simp [h2] at hs
      | some q =>
        obtain ⟨as1, hc2, new2⟩ := q
        simp only [h2, Option.some.injEq, Prod.mk.injEq] at hs
        obtain ⟨rfl, rfl, rfl⟩ := hs
        obtain ⟨r1, n1⟩ := ret1_res h1 hn
        obtain ⟨r2, n2⟩ := retL_res h2 n1
        exact ⟨by rw [List.all_cons, r1, r2]; rfl, n2⟩

theorem retA_res {own : Bool} {h new h1 new1 : Heap} {a a' : A} (hs : retA own 0 h new a = some (a', h1, new1)) (hn : ∀ (b : Nat) cs, new[b]? ≠ some (Blk.var cs)) : resA a' = true ∧ ∀ (b : Nat) cs, new1[b]? ≠ some (Blk.var cs) := by
  unfold retA at hs
  split at hs
  · rename_i cs
    cases h1 : retL own 0 h new cs with
    | none => simp [h1] at hs
    | some p =>
      obtain ⟨cs', hc2, new2⟩ := p
      simp only [h1, Option.some.injEq, Prod.mk.injEq] at hs
      obtain ⟨rfl, rfl, rfl⟩ := hs
      exact retL_res h1 hn
  · obtain ⟨r1, n1⟩ := ret1_res hs hn
    refine ⟨?_, n1⟩
    unfold resA
    split
    · simp [res1, pure1] at r1
    · exact r1

theorem retAs_res {own : Bool} : ∀ {as as' : List A} {h new h1 new1 : Heap} (_ : retAs own 0 h new as = some (as', h1, new1)) (_ : ∀ (b : Nat) cs, new[b]? ≠ some (Blk.var cs)), as'.all resA = true ∧ ∀ (b : Nat) cs, new1[b]? ≠ some (Blk.var cs)
  | [], _, h, new, _, _, hs, hn => by
    simp only [retAs, Option.some.injEq, Prod.mk.injEq] at hs
    obtain ⟨rfl, rfl, rfl⟩ := hs
    exact ⟨rfl, hn⟩
  | a :: as, _, h, new, _, _, hs, hn => by
    simp only [retAs] at hs
    cases h1 : retA own 0 h new a with
    | none => simp [h1] at hs
    | some p =>
      obtain ⟨a1, hc1, new1⟩ := p
      simp only [h1] at hs
      cases h2 : retAs own 0 hc1 new1 as with
      | none => simp [h2] at hs
      | some q =>
        obtain ⟨as1, hc2, new2⟩ := q
        simp only [h2, Option.some.injEq, Prod.mk.injEq] at hs
        obtain ⟨rfl, rfl, rfl⟩ := hs
        obtain ⟨r1, n1⟩ := retA_res h1 hn
        obtain ⟨r2, n2⟩ := retAs_res h2 n1
        exact ⟨by rw [List.all_cons, r1, r2]; rfl, n2⟩

theorem wrap_res {as : List A} (ha : as.all resA = true) : resR (wrapRes as) = true := by
  unfold wrapRes
  split
  · rename_i a
    simp only [List.all_cons, List.all_nil, Bool.and_true] at ha
    unfold resR
    split
    · simp [resA, res1, pure1] at ha
    · exact ha
  · exact ha

theorem finish_inv {f : FuncId} {base : Nat} {res : List ResultVar} {x : Option (X × St)} {r : A × Heap} (hf : finish P cfg f base res x = some r) : ∃ e s, x = some (e, s) ∧ (e = .normal ∨ e = .ret) ∧ retF P cfg f base res s = some r := by
  unfold finish at hf
  split at hf
  · exact ⟨_, _, rfl, .inl rfl, hf⟩
  · exact ⟨_, _, rfl, .inr rfl, hf⟩
  · exact absurd hf (by simp)

theorem retF_some {f : FuncId} {base : Nat} {res : List ResultVar} {s : St} {r : A × Heap} (hf : retF P cfg f base res s = some r) : ∃ vs vs' hc new, resVals P s.env s.heap res = some vs ∧ retAs (cfg.own f) base s.heap [] vs = some (vs', hc, new) ∧ r = (wrapRes vs', hc.take base ++ new) := by
  unfold retF at hf
  cases h1 : resVals P s.env s.heap res with
  | none => simp [h1] at hf
  | some vs =>
    simp only [h1] at hf
    cases h2 : retAs (cfg.own f) base s.heap [] vs with
    | none => simp [h2] at hf
    | some q =>
      obtain ⟨vs', hc, new⟩ := q
      simp only [h2, Option.some.injEq] at hf
      exact ⟨vs, vs', hc, new, rfl, h2, hf.symm⟩

theorem callFunc_enter (hP : ProgOk P) {f : FuncId} {fn : Func} (hf : P.funcs[f]? = some fn) {c : Code} (hb : fn.body = some c) (args : Array Value) : (callFunc f args).run P w = .ok (.enter f args) w := by
  have hn := hP.name f fn hf
  unfold callFunc
  refine (run_step (a := P) (w' := w) rfl).trans ?_
  simp [hf, hb]
  simp at hn
  simp [hn]

theorem callBy_ok (hP : ProgOk P) (hO : OrcOk P cfg) {k : Nat} (hE : ExecOk P cfg k) : CallOk P (callBy P cfg (exec P cfg k)) := by
  refine ⟨fun f args h r hc bs w φ vals S hr => ?_, fun f args r hc => ?_⟩
  · unfold callBy at hc
    split at hc
    · rename_i g hg
      split at hc
      · rename_i a ha
        injection hc with hc; subst hc
        exact (hO f g hg args a ha).2 bs w φ h vals S hr
      · exact absurd hc (by simp)
    · split at hc
      case h_2 => exact absurd hc (by simp)
      rename_i fn hfn
      split at hc
      case h_2 => exact absurd hc (by simp)
      rename_i c hb
      split at hc
      case isFalse => exact absurd hc (by simp)
      case isTrue hok =>
      obtain ⟨e, s, hx, he, hret⟩ := finish_inv hc
      simp only [okFn, hb, Bool.and_eq_true] at hok
      have hle : args.length ≤ fn.ntmps := by simpa using hok.1
      refine .inl ⟨callFunc_enter hP hfn hb _, calls_of_wp hfn hb ?_⟩
      have S1 : Sim (h.length :: bs) w φ h := ⟨S.inj, S.dom, fun B hB => (List.mem_cons.1 hB).elim (fun e => by rw [e]; exact Nat.le_refl _) (S.bnd B), S.frn, S.frd, fun B hB b x hb hx => by
        refine S.blk B ?_ b x hb hx
        rcases hB with e | e
        · exact .inl e
        · exact (List.mem_cons.1 e).imp (fun e => e) fun e => e⟩
      have hw := hE h.length fn.ntmps c (initEnv 0 args) h (e, s) hx hok.2 (h.length :: bs) w φ _ (fun B hB => S1.bnd B hB) (init_rel hr hle) S1
      refine Code.wp_mono ?_ hw
      rintro e2 a2 w2 ⟨rfl, φ2, T2, S2, R2⟩
      obtain ⟨vs, vs', hcc, new, hv1, hv2, rfl⟩ := retF_some hret
      obtain ⟨us, e1, hus⟩ := resVals_ok R2 S2 hv1
      obtain ⟨φ3, T3, S3, R3⟩ := ret_fin S T2 S2 hv2 hus
      have hres := results_run (fn := fn) e1
      have key : a2.defers = [] ∧ ∃ v, (results fn a2.tmps).run P w2 = .ok v w2 ∧ Rets bs w φ h (wrapRes vs', hcc.take h.length ++ new) (.returned v) w2 :=
        ⟨R2.defers, _, hres, _, φ3, rfl, T3, S3, wrap_rep R3⟩
      rcases he with rfl | rfl
      · exact key
      · exact key
  · unfold callBy at hc
    split at hc
    · rename_i g hg
      split at hc
      · rename_i a ha
        injection hc with hc; subst hc
        exact ⟨(hO f g hg args a ha).1, fun b cs hb => by simp at hb⟩
      · exact absurd hc (by simp)
    · split at hc
      case h_2 => exact absurd hc (by simp)
      rename_i fn hfn
      split at hc
      case h_2 => exact absurd hc (by simp)
      rename_i c hb
      split at hc
      case isFalse => exact absurd hc (by simp)
      case isTrue hok =>
      obtain ⟨e, s, hx, he, hret⟩ := finish_inv hc
      obtain ⟨vs, vs', hcc, new, hv1, hv2, rfl⟩ := retF_some hret
      obtain ⟨r1, n1⟩ := retAs_res hv2 (fun b cs hb => by simp at hb)
      exact ⟨wrap_res r1, fun b cs hb => by simp at hb; exact n1 b cs hb⟩

theorem exec_ok (hP : ProgOk P) (hO : OrcOk P cfg) : ∀ k, ExecOk P cfg k := by
  intro k
  induction k using Nat.strongRecOn with
  | ind k IH =>
    cases k with
    | zero => intro base nt c env h o hs; simp [exec] at hs
    | succ k => exact exec_step hP k (callBy_ok hP hO (IH k (Nat.lt_succ_self k))) IH

/-- **What a call is told to give is what it gives.** -/
theorem callω_ok (hP : ProgOk P) (hO : OrcOk P cfg) {f : FuncId} {args : List A} {h : Heap} {r : A × Heap} (hc : callω P cfg f args h = some r) (S : Sim bs w φ h) {vals : List Value} (hr : RepL w φ h h.length args vals) :
    Called P f vals.toArray w (Rets bs w φ h r) := by
  obtain ⟨k, hk⟩ := callω_some hc
  exact (callBy_ok hP hO (exec_ok hP hO k)).run f args h r hk bs w φ vals S hr
end
end Go.Proofs.Ytckjogpdnkocbaa.Den
