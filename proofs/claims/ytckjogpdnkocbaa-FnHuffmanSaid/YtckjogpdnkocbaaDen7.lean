/- A part of the proof: The law FnHuffman is proved for every input: it returns true and its arguments read as before. No condition. How: an abstract run of the program (told in Lean, proved sound against the model) is computed for every drawn list of weights; that no code costs less than Huffman's, and that his fills all room, is proved in plain Lean on lists of trees. -/
import Derived.Laws.IdiomStrings
import Derived.Test.YtckjogpdnkocbaaDen3
set_option linter.unusedSimpArgs false
set_option linter.unusedVariables false
namespace Go.Proofs.Ytckjogpdnkocbaa.Den

/-- Where a block of the call's lies; which places are another's. -/
structure Phi where
  f : Nat → Option Nat
  fr : Nat → Prop
instance : CoeFun Phi fun _ => Nat → Option Nat := ⟨Phi.f⟩
def Phi.out (φ : Phi) (b : Nat) : Prop := (∀ i, φ i ≠ some b) ∧ ¬ φ.fr b

def VerLe (h : Heap) (b ver : Nat) : Prop := ∀ ver' sz rows, h[b]? = some (.vec ver' sz rows) → ver ≤ ver'
def cellsIn (w : World) (k : Nat) : Option Nat := match w.heap[k]? with
  | some (.cells c _ _) => some c.size
  | _ => none

structure OwnOk (w : World) (φ : Phi) (h : Heap) (b ver off n : Nat) (ao : Option Addr) (c : Nat) : Prop where
  le : VerLe h b ver
  now : ∀ sz rows, h[b]? = some (.vec ver sz rows) → off + n ≤ rows.length ∧ rows.length ≤ off + c ∧
    (φ b = none → c = 0) ∧ ∀ k, φ b = some k → (ao = some ⟨k, off * sz, none⟩ ∨ c = 0) ∧ ∀ m, cellsIn w k = some m → (off + c) * sz ≤ m

structure VptrOk (φ : Phi) (h : Heap) (b ver i j : Nat) (p : Addr) : Prop where
  spot : p.spot = none
  le : VerLe h b ver
  now : ∀ sz rows, h[b]? = some (.vec ver sz rows) → ∃ k, φ b = some k ∧ p = ⟨k, i * sz + j, none⟩

def IsVar (h : Heap) (b : Nat) : Prop := ∃ cs, h[b]? = some (.var cs)

mutual
inductive Rep (w : World) (φ : Phi) (h : Heap) : Nat → A → Value → Prop
  | undef (B : Nat) (v : Value) : Rep w φ h B .undef v
  | bool (B : Nat) (b : Bool) : Rep w φ h B (.bool b) (.bool b)
  | int (B : Nat) (k : IntKind) (n : Int) : Rep w φ h B (.int k n) (.int k n)
  | str (B : Nat) (s : List UInt8) : Rep w φ h B (.str s) (.string ⟨s.toArray⟩)
  | nilp (B : Nat) : Rep w φ h B .nilp (.pointer none)
  | nilif (B : Nat) : Rep w φ h B .nilif .nilIface
  | errv (B : Nat) (t : TypeId) (u : Value) : Rep w φ h B .errv (.iface t u)
  | sl0 (B : Nat) (ao : Option Addr) (c : Nat) : Rep w φ h B (.sl []) (.slice ao 0 c)
  | sl1 (B : Nat) (row : List A) (rows : List (List A)) (b off sz c : Nat) (hc : rows.length + 1 ≤ c) (hb : b < w.heap.size) (hφ : φ.out b)
      (hr : RepRows w φ h b sz off (row :: rows)) : Rep w φ h B (.sl (row :: rows)) (.slice (some ⟨b, off, none⟩) (rows.length + 1) c)
  | own (B b ver off n : Nat) (ao : Option Addr) (c : Nat) (hb : b < B) (hn : n ≤ c) (ho : OwnOk w φ h b ver off n ao c) : Rep w φ h B (.own b ver off n) (.slice ao n c)
  | agg (B : Nat) (cs : List A) (vs : List Value) (hl : RepL w φ h B cs vs) : Rep w φ h B (.agg cs) (.agg vs.toArray)
  | tup (B : Nat) (cs : List A) (vs : List Value) (hl : RepL w φ h B cs vs) : Rep w φ h B (.tup cs) (.tuple vs.toArray)
  | ptr (B b j k : Nat) (hb : b < B) (hv : IsVar h b) (hk : φ b = some k) : Rep w φ h B (.ptr b j) (.pointer (some ⟨k, j, none⟩))
  | vptr (B b ver i j : Nat) (p : Addr) (hb : b < B) (hp : VptrOk φ h b ver i j p) : Rep w φ h B (.vptr b ver i j) (.pointer (some p))
  | eptr (B : Nat) (row : List A) (j b off : Nat) (hb : b < w.heap.size) (hφ : φ.out b) (hr : RepCells w φ h b off row) : Rep w φ h B (.eptr row j) (.pointer (some ⟨b, off + j, none⟩))
  | fn (B : Nat) (f : FuncId) (caps : List A) (vs : List Value) (hl : RepL w φ h B caps vs) : Rep w φ h B (.fn f caps) (.func (.func f) #[] vs.toArray)
inductive RepL (w : World) (φ : Phi) (h : Heap) : Nat → List A → List Value → Prop
  | nil (B : Nat) : RepL w φ h B [] []
  | cons (B : Nat) (a : A) (as : List A) (v : Value) (vs : List Value) (ha : Rep w φ h B a v) (hr : RepL w φ h B as vs) : RepL w φ h B (a :: as) (v :: vs)
inductive RepCells (w : World) (φ : Phi) (h : Heap) : Nat → Nat → List A → Prop
  | nil (b off : Nat) : RepCells w φ h b off []
  | cons (b off : Nat) (a : A) (as : List A) (v : Value) (hc : w.cell? ⟨b, off, none⟩ = some v) (ha : Rep w φ h 0 a v) (hr : RepCells w φ h b (off + 1) as) : RepCells w φ h b off (a :: as)
inductive RepRows (w : World) (φ : Phi) (h : Heap) : Nat → Nat → Nat → List (List A) → Prop
  | nil (b sz off : Nat) : RepRows w φ h b sz off []
  | cons (b sz off : Nat) (row : List A) (rows : List (List A)) (hl : row.length = sz) (hc : RepCells w φ h b off row) (hr : RepRows w φ h b sz (off + sz) rows) : RepRows w φ h b sz off (row :: rows)
end

/-- From one state to a later one. -/
structure Tr (w : World) (φ : Phi) (h : Heap) (w' : World) (φ' : Phi) (h' : Heap) : Prop where
  os : w'.os = w.os
  tape : w'.tape = w.tape
  output : w'.output = w.output
  size : w.heap.size ≤ w'.heap.size
  len : h.length ≤ h'.length
  keep : ∀ k, k < w.heap.size → (∀ i, φ i ≠ some k) → w'.heap[k]? = w.heap[k]? ∧ ∀ i, φ' i ≠ some k
  var : ∀ b cs, h[b]? = some (.var cs) → (∃ cs', h'[b]? = some (.var cs')) ∧ φ' b = φ b
  vec : ∀ b, b < h.length → ∀ ver' sz' rows', h'[b]? = some (.vec ver' sz' rows') → ∃ ver sz rows, h[b]? = some (.vec ver sz rows) ∧ ver ≤ ver' ∧
    (ver = ver' → sz = sz' ∧ rows.length = rows'.length ∧ φ' b = φ b ∧ ∀ k, φ b = some k → cellsIn w' k = cellsIn w k)
  fr : φ'.fr = φ.fr

section
variable {w w' : World} {φ φ' : Phi} {h h' : Heap} {B B' : Nat}

theorem Tr.verLe (T : Tr w φ h w' φ' h') {b ver : Nat} (hb : b < h.length) (hv : VerLe h b ver) : VerLe h' b ver := by
  intro ver' sz rows hh
  obtain ⟨ver1, sz1, rows1, e, hle, _⟩ := T.vec b hb ver' sz rows hh
  exact Nat.le_trans (hv _ _ _ e) hle

theorem Tr.out (T : Tr w φ h w' φ' h') {b : Nat} (hb : b < w.heap.size) (hφ : φ.out b) : φ'.out b := ⟨(T.keep b hb hφ.1).2, by rw [T.fr]; exact hφ.2⟩

theorem Tr.cell (T : Tr w φ h w' φ' h') {b : Nat} (hb : b < w.heap.size) (hφ : ∀ i, φ i ≠ some b) (off : Nat) : w'.cell? ⟨b, off, none⟩ = w.cell? ⟨b, off, none⟩ := by
  simp only [World.cell?, (T.keep b hb hφ).1]

theorem Tr.ownOk (T : Tr w φ h w' φ' h') {b ver off n : Nat} {ao : Option Addr} {c : Nat} (hb : b < h.length) (ho : OwnOk w φ h b ver off n ao c) : OwnOk w' φ' h' b ver off n ao c := by
  refine ⟨T.verLe hb ho.le, ?_⟩
  intro sz rows hh
  obtain ⟨ver1, sz1, rows1, e, hle, hsame⟩ := T.vec b hb ver sz rows hh
  have h1 : ver = ver1 := Nat.le_antisymm (ho.le _ _ _ e) hle
  subst h1
  obtain ⟨rfl, hl, hφ, hc⟩ := hsame rfl
  obtain ⟨a1, a2, a3, a4⟩ := ho.now _ _ e
  refine ⟨hl ▸ a1, hl ▸ a2, fun hn => a3 (hφ ▸ hn), fun k hk => ?_⟩
  rw [hφ] at hk
  obtain ⟨b1, b2⟩ := a4 k hk
  exact ⟨b1, fun m hm => b2 m (hc k hk ▸ hm)⟩

mutual
theorem Rep.tr (T : Tr w φ h w' φ' h') : ∀ {B B' : Nat} {a : A} {v : Value}, B ≤ h.length → B ≤ B' → Rep w φ h B a v → Rep w' φ' h' B' a v
  | _, _, _, _, _, _, .undef _ v => .undef _ v
  | _, _, _, _, _, _, .bool _ b => .bool _ b
  | _, _, _, _, _, _, .int _ k n => .int _ k n
  | _, _, _, _, _, _, .str _ s => .str _ s
  | _, _, _, _, _, _, .nilp _ => .nilp _
  | _, _, _, _, _, _, .nilif _ => .nilif _
  | _, _, _, _, _, _, .errv _ t u => .errv _ t u
  | _, _, _, _, _, _, .sl0 _ ao c => .sl0 _ ao c
  | _, _, _, _, _, _, .sl1 _ row rows b off sz c hc hb hφ hr => .sl1 _ row rows b off sz c hc (Nat.lt_of_lt_of_le hb T.size) (T.out hb hφ) (RepRows.tr T hr hb hφ.1)
  | _, _, _, _, hB, hB', .own _ b ver off n ao c hb hn ho => .own _ b ver off n ao c (Nat.lt_of_lt_of_le hb hB') hn (T.ownOk (Nat.lt_of_lt_of_le hb hB) ho)
  | _, _, _, _, hB, hB', .agg _ cs vs hl => .agg _ cs vs (RepL.tr T hB hB' hl)
  | _, _, _, _, hB, hB', .tup _ cs vs hl => .tup _ cs vs (RepL.tr T hB hB' hl)
  | _, _, _, _, _, hB', .ptr _ b j k hb hv hk => .ptr _ b j k (Nat.lt_of_lt_of_le hb hB') (T.var b _ hv.choose_spec).1 ((T.var b _ hv.choose_spec).2.trans hk)
  | _, _, _, _, hB, hB', .vptr _ b ver i j p hb hp => .vptr _ b ver i j p (Nat.lt_of_lt_of_le hb hB') ⟨hp.spot, T.verLe (Nat.lt_of_lt_of_le hb hB) hp.le, fun sz rows hh => by
      obtain ⟨ver1, sz1, rows1, e, hle, hsame⟩ := T.vec b (Nat.lt_of_lt_of_le hb hB) ver sz rows hh
      have h1 : ver = ver1 := Nat.le_antisymm (hp.le _ _ _ e) hle
      subst h1
      obtain ⟨rfl, hl, hφ, hc⟩ := hsame rfl
      rw [hφ]
      exact hp.now _ _ e⟩
  | _, _, _, _, _, _, .eptr _ row j b off hb hφ hr => .eptr _ row j b off (Nat.lt_of_lt_of_le hb T.size) (T.out hb hφ) (RepCells.tr T hr hb hφ.1)
  | _, _, _, _, hB, hB', .fn _ f caps vs hl => .fn _ f caps vs (RepL.tr T hB hB' hl)
theorem RepL.tr (T : Tr w φ h w' φ' h') : ∀ {B B' : Nat} {as : List A} {vs : List Value}, B ≤ h.length → B ≤ B' → RepL w φ h B as vs → RepL w' φ' h' B' as vs
  | _, _, _, _, _, _, .nil _ => .nil _
  | _, _, _, _, hB, hB', .cons _ a as v vs ha hr => .cons _ a as v vs (Rep.tr T hB hB' ha) (RepL.tr T hB hB' hr)
theorem RepCells.tr (T : Tr w φ h w' φ' h') : ∀ {b off : Nat} {as : List A}, RepCells w φ h b off as → b < w.heap.size → (∀ i, φ i ≠ some b) → RepCells w' φ' h' b off as
  | _, _, _, .nil b off, _, _ => .nil b off
  | _, _, _, .cons b off a as v hc ha hr, hb, hφ => .cons b off a as v ((T.cell hb hφ off).trans hc) (Rep.tr T (Nat.zero_le _) (Nat.le_refl _) ha) (RepCells.tr T hr hb hφ)
theorem RepRows.tr (T : Tr w φ h w' φ' h') : ∀ {b sz off : Nat} {rows : List (List A)}, RepRows w φ h b sz off rows → b < w.heap.size → (∀ i, φ i ≠ some b) → RepRows w' φ' h' b sz off rows
  | _, _, _, _, .nil b sz off, _, _ => .nil b sz off
  | _, _, _, _, .cons b sz off row rows hl hc hr, hb, hφ => .cons b sz off row rows hl (RepCells.tr T hc hb hφ) (RepRows.tr T hr hb hφ)
end

theorem Tr.refl (w : World) (φ : Phi) (h : Heap) : Tr w φ h w φ h :=
  ⟨rfl, rfl, rfl, Nat.le_refl _, Nat.le_refl _, fun _ _ hφ => ⟨rfl, hφ⟩, fun _ cs hc => ⟨⟨cs, hc⟩, rfl⟩, fun _ _ ver sz rows hh => ⟨ver, sz, rows, hh, Nat.le_refl _, fun _ => ⟨rfl, rfl, rfl, fun _ _ => rfl⟩⟩, rfl⟩

theorem Tr.trans {w'' : World} {φ'' : Phi} {h'' : Heap} (T : Tr w φ h w' φ' h') (S : Tr w' φ' h' w'' φ'' h'') : Tr w φ h w'' φ'' h'' := by
  refine ⟨S.os.trans T.os, S.tape.trans T.tape, S.output.trans T.output, Nat.le_trans T.size S.size, Nat.le_trans T.len S.len, ?_, ?_, ?_, S.fr.trans T.fr⟩
  · intro k hk hφ
    obtain ⟨a1, a2⟩ := T.keep k hk hφ
    obtain ⟨b1, b2⟩ := S.keep k (Nat.lt_of_lt_of_le hk T.size) a2
    exact ⟨b1.trans a1, b2⟩
  · intro b cs hc
    obtain ⟨⟨cs', h1⟩, e1⟩ := T.var b cs hc
    obtain ⟨h2, e2⟩ := S.var b cs' h1
    exact ⟨h2, e2.trans e1⟩
  · intro b hb ver2 sz2 rows2 hh
    obtain ⟨ver1, sz1, rows1, e1, hle1, hs1⟩ := S.vec b (Nat.lt_of_lt_of_le hb T.len) ver2 sz2 rows2 hh
    obtain ⟨ver0, sz0, rows0, e0, hle0, hs0⟩ := T.vec b hb ver1 sz1 rows1 e1
    refine ⟨ver0, sz0, rows0, e0, Nat.le_trans hle0 hle1, fun he => ?_⟩
    have h01 : ver0 = ver1 := Nat.le_antisymm hle0 (he ▸ hle1)
    have h12 : ver1 = ver2 := h01 ▸ he
    obtain ⟨a1, a2, a3, a4⟩ := hs0 h01
    obtain ⟨b1, b2, b3, b4⟩ := hs1 h12
    refine ⟨a1.trans b1, a2.trans b2, b3.trans a3, fun k hk => ?_⟩
    rw [b4 k (a3.trans hk), a4 k hk]
end

end Go.Proofs.Ytckjogpdnkocbaa.Den
namespace Go.Proofs.Ytckjogpdnkocbaa.Den

def NoFz (fz : Nat × Nat) (n : Nat) : Prop := ∀ o, o < n → ¬ (fz.1 ≤ o ∧ o < fz.2)

def VecOk (w : World) (φ : Phi) (h : Heap) (b sz : Nat) (rows : List (List A)) : Prop :=
  ∃ k et fz cells, φ b = some k ∧ w.heap[k]? = some (.cells cells et fz) ∧ NoFz fz cells.size ∧ 0 < sz ∧ rows.length * sz ≤ cells.size ∧
    ∀ i row, rows[i]? = some row → row.length = sz ∧ RepL w φ h 0 row ((cells.toList.drop (i * sz)).take sz)

def BlkOk (w : World) (φ : Phi) (h : Heap) (B b : Nat) : Blk → Prop
  | .dead => φ b = none
  | .var cs => ∃ k et fz cells, φ b = some k ∧ w.heap[k]? = some (.cells cells et fz) ∧ NoFz fz cells.size ∧ RepL w φ h B cs cells.toList
  | .vec _ sz rows => (φ b = none ∧ rows = [] ∧ sz = 0) ∨ VecOk w φ h b sz rows

structure Sim (bs : List Nat) (w : World) (φ : Phi) (h : Heap) : Prop where
  inj : ∀ i j k, φ i = some k → φ j = some k → i = j
  dom : ∀ i k, φ i = some k → i < h.length ∧ k < w.heap.size
  bnd : ∀ B, B ∈ bs → B ≤ h.length
  frn : ∀ i k, φ i = some k → ¬ φ.fr k
  frd : ∀ k, φ.fr k → k < w.heap.size
  blk : ∀ B, (B = h.length ∨ B ∈ bs) → ∀ b x, b < B → h[b]? = some x → BlkOk w φ h B b x

section
variable {w w' : World} {φ φ' : Phi} {h h' : Heap} {B B' : Nat} {bs : List Nat}

theorem BlkOk.tr (T : Tr w φ h w' φ' h') (hB : B ≤ h.length) (hB' : B ≤ B') {b : Nat} {x : Blk} (hφ : φ' b = φ b) (hw : ∀ k, φ b = some k → w'.heap[k]? = w.heap[k]?)
    (hx : BlkOk w φ h B b x) : BlkOk w' φ' h' B' b x := by
  cases x with
  | dead => exact hφ.trans hx
  | var cs =>
    obtain ⟨k, et, fz, cells, a1, a2, a3, a4⟩ := hx
    exact ⟨k, et, fz, cells, hφ.trans a1, (hw k a1).trans a2, a3, a4.tr T hB hB'⟩
  | vec ver sz rows =>
    rcases hx with ⟨a1, a2, a3⟩ | ⟨k, et, fz, cells, a1, a2, a3, a4, a5, a6⟩
    · exact .inl ⟨hφ.trans a1, a2, a3⟩
    · exact .inr ⟨k, et, fz, cells, hφ.trans a1, (hw k a1).trans a2, a3, a4, a5, fun i row hi => ⟨(a6 i row hi).1, (a6 i row hi).2.tr T (Nat.zero_le _) (Nat.le_refl _)⟩⟩

theorem Sim.step (S : Sim bs w φ h) (T : Tr w φ h w' φ' h') (inj : ∀ i j k, φ' i = some k → φ' j = some k → i = j) (dom : ∀ i k, φ' i = some k → i < h'.length ∧ k < w'.heap.size)
    (hch : ∀ b x, h'[b]? = some x → (h[b]? = some x ∧ φ' b = φ b ∧ ∀ k, φ b = some k → w'.heap[k]? = w.heap[k]?) ∨
      (∀ B, (B = h'.length ∨ B ∈ bs) → b < B → BlkOk w' φ' h' B b x)) : Sim bs w' φ' h' := by
  refine ⟨inj, dom, fun B hB => Nat.le_trans (S.bnd B hB) T.len, fun i k hi hk => ?_, fun k hk => ?_, ?_⟩
  · rw [T.fr] at hk
    exact (T.keep k (S.frd k hk) (fun j hj => S.frn j k hj hk)).2 i hi
  · rw [T.fr] at hk
    exact Nat.lt_of_lt_of_le (S.frd k hk) T.size
  intro B hB b x hb hx
  rcases hch b x hx with ⟨a1, a2, a3⟩ | hnew
  · have hbl : b < h.length := (List.getElem?_eq_some_iff.1 a1).1
    rcases hB with rfl | hB
    · exact (S.blk h.length (.inl rfl) b x hbl a1).tr T (Nat.le_refl _) T.len a2 a3
    · exact (S.blk B (.inr hB) b x hb a1).tr T (S.bnd B hB) (Nat.le_refl _) a2 a3
  · exact hnew B hB hb

theorem RepL.length_eq {as : List A} {vs : List Value} (hl : RepL w φ h B as vs) : as.length = vs.length := by
  induction as generalizing vs with
  | nil => cases hl; rfl
  | cons a as ih => cases hl with | cons _ _ _ v vs ha hr => simp [ih hr]

theorem RepL.get {as : List A} {vs : List Value} (hl : RepL w φ h B as vs) (i : Nat) (a : A) (hi : as[i]? = some a) : ∃ v, vs[i]? = some v ∧ Rep w φ h B a v := by
  induction as generalizing vs i with
  | nil => simp at hi
  | cons a0 as ih =>
    cases hl with
    | cons _ _ _ v vs ha hr =>
      cases i with
      | zero => simp at hi; subst hi; exact ⟨v, rfl, ha⟩
      | succ i => simpa using ih hr i (by simpa using hi)

theorem RepL.append {as bs : List A} {vs us : List Value} (h1 : RepL w φ h B as vs) (h2 : RepL w φ h B bs us) : RepL w φ h B (as ++ bs) (vs ++ us) := by
  induction as generalizing vs with
  | nil => cases h1; exact h2
  | cons a as ih => cases h1 with | cons _ _ _ v vs ha hr => exact .cons _ _ _ _ _ ha (ih hr)

theorem RepL.take {as : List A} {vs : List Value} (n : Nat) (hl : RepL w φ h B as vs) : RepL w φ h B (as.take n) (vs.take n) := by
  induction as generalizing vs n with
  | nil => cases hl; simp; exact .nil _
  | cons a as ih =>
    cases hl with
    | cons _ _ _ v vs ha hr =>
      cases n with
      | zero => exact .nil _
      | succ n => exact .cons _ _ _ _ _ ha (ih n hr)

theorem RepL.drop {as : List A} {vs : List Value} (n : Nat) (hl : RepL w φ h B as vs) : RepL w φ h B (as.drop n) (vs.drop n) := by
  induction as generalizing vs n with
  | nil => cases hl; simp; exact .nil _
  | cons a as ih =>
    cases hl with
    | cons _ _ _ v vs ha hr =>
      cases n with
      | zero => exact .cons _ _ _ _ _ ha hr
      | succ n => exact ih n hr

theorem RepL.set {as : List A} {vs : List Value} (n : Nat) {a : A} {v : Value} (hl : RepL w φ h B as vs) (ha : Rep w φ h B a v) : RepL w φ h B (as.set n a) (vs.set n v) := by
  induction as generalizing vs n with
  | nil => cases hl; exact .nil _
  | cons a0 as ih =>
    cases hl with
    | cons _ _ _ v0 vs h0 hr =>
      cases n with
      | zero => exact .cons _ _ _ _ _ ha hr
      | succ n => exact .cons _ _ _ _ _ h0 (ih n hr)

theorem RepL.of_get {as : List A} {vs : List Value} (hl : as.length = vs.length) (hg : ∀ (i : Nat) (a : A) (v : Value), as[i]? = some a → vs[i]? = some v → Rep w φ h B a v) : RepL w φ h B as vs := by
  induction as generalizing vs with
  | nil => cases vs with | nil => exact .nil _ | cons => simp at hl
  | cons a as ih =>
    cases vs with
    | nil => simp at hl
    | cons v vs => exact .cons _ _ _ _ _ (hg 0 a v rfl rfl) (ih (by simpa using hl) fun i a v h1 h2 => hg (i + 1) a v (by simpa using h1) (by simpa using h2))

theorem Rep.mono (hB : B ≤ B') (hB2 : B ≤ h.length) {a : A} {v : Value} (hr : Rep w φ h B a v) : Rep w φ h B' a v := hr.tr (Tr.refl w φ h) hB2 hB
theorem RepL.mono (hB : B ≤ B') (hB2 : B ≤ h.length) {a : List A} {v : List Value} (hr : RepL w φ h B a v) : RepL w φ h B' a v := hr.tr (Tr.refl w φ h) hB2 hB

/-- The map of blocks with one more. -/
def upd (φ : Phi) (b : Nat) (k : Option Nat) : Phi := ⟨fun i => if i = b then k else φ i, φ.fr⟩
theorem upd_same (φ : Phi) (b : Nat) (k : Option Nat) : upd φ b k b = k := by simp [upd]
theorem upd_ne (φ : Phi) {b i : Nat} (k : Option Nat) (hi : i ≠ b) : upd φ b k i = φ i := by simp [upd, hi]

theorem getElem?_snoc {α : Type} (l : List α) (x : α) (b : Nat) (y : α) (hb : (l ++ [x])[b]? = some y) : (l[b]? = some y ∧ b < l.length) ∨ (b = l.length ∧ y = x) := by
  by_cases hlt : b < l.length
  · rw [List.getElem?_append_left hlt] at hb; exact .inl ⟨hb, hlt⟩
  · have : b < (l ++ [x]).length := (List.getElem?_eq_some_iff.1 hb).1
    have : b = l.length := by simp at this; omega
    subst this
    simp at hb
    exact .inr ⟨rfl, hb.symm⟩

theorem heap_push_lt (w : World) (o : Obj) (k : Nat) (hk : k < w.heap.size) : (w.alloc o).heap[k]? = w.heap[k]? := by
  show (w.heap.push o)[k]? = _
  rw [Array.getElem?_push, if_neg (by omega)]
theorem heap_push_new (w : World) (o : Obj) : (w.alloc o).heap[w.heap.size]? = some o := by
  show (w.heap.push o)[w.heap.size]? = _
  simp

/-- A new block. -/
theorem alloc_tr (S : Sim bs w φ h) (x : Blk) (cells : Array Value) (et : TypeId) (fz : Nat × Nat) :
    Tr w φ h (w.alloc (.cells cells et fz)) (upd φ h.length (some w.heap.size)) (h ++ [x]) := by
  refine ⟨rfl, rfl, rfl, by simp, by simp, ?_, ?_, ?_, rfl⟩
  · intro k hk hφ
    refine ⟨heap_push_lt w _ k hk, fun i => ?_⟩
    by_cases hi : i = h.length
    · subst hi; rw [upd_same]; intro e; injection e with e; omega
    · rw [upd_ne _ _ hi]; exact hφ i
  · intro b cs hc
    have hb : b < h.length := (List.getElem?_eq_some_iff.1 hc).1
    exact ⟨⟨cs, by rw [List.getElem?_append_left hb]; exact hc⟩, upd_ne _ _ (by omega)⟩
  · intro b hb ver sz rows hh
    rw [List.getElem?_append_left hb] at hh
    refine ⟨ver, sz, rows, hh, Nat.le_refl _, fun _ => ⟨rfl, rfl, upd_ne _ _ (by omega), fun k hk => ?_⟩⟩
    have := (S.dom b k hk).2
    simp only [cellsIn, heap_push_lt w _ k this]

theorem alloc_sim (S : Sim bs w φ h) (x : Blk) (cells : Array Value) (et : TypeId) (fz : Nat × Nat)
    (hx : BlkOk (w.alloc (.cells cells et fz)) (upd φ h.length (some w.heap.size)) (h ++ [x]) (h.length + 1) h.length x) :
    Sim bs (w.alloc (.cells cells et fz)) (upd φ h.length (some w.heap.size)) (h ++ [x]) := by
  refine S.step (alloc_tr S x cells et fz) ?_ ?_ ?_
  · intro i j k hi hj
    by_cases h1 : i = h.length <;> by_cases h2 : j = h.length
    · omega
    · subst h1; rw [upd_same] at hi; rw [upd_ne _ _ h2] at hj; have := (S.dom j k hj).2; injection hi with hi; omega
    · subst h2; rw [upd_same] at hj; rw [upd_ne _ _ h1] at hi; have := (S.dom i k hi).2; injection hj with hj; omega
    · rw [upd_ne _ _ h1] at hi; rw [upd_ne _ _ h2] at hj; exact S.inj i j k hi hj
  · intro i k hi
    by_cases h1 : i = h.length
    · subst h1; rw [upd_same] at hi; injection hi with hi; subst hi; simp
    · rw [upd_ne _ _ h1] at hi; have := S.dom i k hi; simp; omega
  · intro b y hy
    rcases getElem?_snoc h x b y hy with ⟨h1, h2⟩ | ⟨h1, h2⟩
    · exact .inl ⟨h1, upd_ne _ _ (by omega), fun k hk => heap_push_lt w _ k (S.dom b k hk).2⟩
    · subst h1; subst h2
      refine .inr fun B hB hb => ?_
      rcases hB with rfl | hB
      · simpa using hx
      · have := S.bnd B hB; omega

/-- A nil slice that may be appended to. -/
theorem virt_tr : Tr w φ h w φ (h ++ [.vec 0 0 []]) := by
  refine ⟨rfl, rfl, rfl, Nat.le_refl _, by simp, fun _ _ hφ => ⟨rfl, hφ⟩, ?_, ?_, rfl⟩
  · intro b cs hc
    have hb : b < h.length := (List.getElem?_eq_some_iff.1 hc).1
    exact ⟨⟨cs, by rw [List.getElem?_append_left hb]; exact hc⟩, rfl⟩
  · intro b hb ver sz rows hh
    rw [List.getElem?_append_left hb] at hh
    exact ⟨ver, sz, rows, hh, Nat.le_refl _, fun _ => ⟨rfl, rfl, rfl, fun _ _ => rfl⟩⟩

theorem phi_none (S : Sim bs w φ h) {b : Nat} (hb : h.length ≤ b) : φ b = none := by
  cases hp : φ b with
  | none => rfl
  | some k => have := (S.dom b k hp).1; omega

theorem virt_sim (S : Sim bs w φ h) : Sim bs w φ (h ++ [.vec 0 0 []]) := by
  refine S.step virt_tr S.inj (fun i k hi => ?_) ?_
  · have := S.dom i k hi; simp; omega
  · intro b y hy
    rcases getElem?_snoc h _ b y hy with ⟨h1, h2⟩ | ⟨h1, h2⟩
    · exact .inl ⟨h1, rfl, fun _ _ => rfl⟩
    · subst h1; subst h2
      exact .inr fun B _ _ => .inl ⟨phi_none S (Nat.le_refl _), rfl, rfl⟩

theorem virt_rep (S : Sim bs w φ h) (ao : Option Addr) : Rep w φ (h ++ [.vec 0 0 []]) (h.length + 1) (.own h.length 0 0 0) (.slice ao 0 0) := by
  refine .own _ _ _ _ _ _ _ (by omega) (Nat.le_refl _) ⟨?_, ?_⟩
  · intro ver' sz rows hh; omega
  · intro sz rows hh
    simp at hh
    obtain ⟨rfl, rfl⟩ := hh
    refine ⟨by simp, by simp, fun _ => rfl, fun k hk => ?_⟩
    rw [phi_none S (Nat.le_refl _)] at hk
    exact absurd hk (by simp)

end
end Go.Proofs.Ytckjogpdnkocbaa.Den
namespace Go.Proofs.Ytckjogpdnkocbaa.Den

def putB (w : World) (k : Nat) (o : Obj) : World := { w with heap := w.heap.setIfInBounds k o }
@[simp] theorem putB_size (w : World) (k : Nat) (o : Obj) : (putB w k o).heap.size = w.heap.size := by simp [putB]
theorem putB_ne (w : World) {k j : Nat} (o : Obj) (hj : j ≠ k) : (putB w k o).heap[j]? = w.heap[j]? := by
  simp only [putB, Array.getElem?_setIfInBounds]; rw [if_neg (fun e => hj e.symm)]
theorem putB_same (w : World) {k : Nat} (o : Obj) (hk : k < w.heap.size) : (putB w k o).heap[k]? = some o := by
  simp [putB, hk]

section
variable {w w' : World} {φ φ' : Phi} {h h' : Heap} {B B' : Nat} {bs : List Nat}

theorem blk_lt {k : Nat} {o : Obj} (hk : w.heap[k]? = some o) : k < w.heap.size := (Array.getElem?_eq_some_iff.1 hk).1
theorem idx_lt {b : Nat} {x : Blk} (hb : h[b]? = some x) : b < h.length := (List.getElem?_eq_some_iff.1 hb).1

theorem set_get {b i : Nat} {x y : Blk} (hi : (h.set b x)[i]? = some y) : (i ≠ b ∧ h[i]? = some y) ∨ (i = b ∧ y = x ∧ b < h.length) := by
  rw [List.getElem?_set] at hi
  split at hi
  · rename_i e
    subst e
    split at hi
    · rename_i hl; exact .inr ⟨rfl, (Option.some.inj hi).symm, hl⟩
    · exact absurd hi (by simp)
  · rename_i e; exact .inl ⟨fun e' => e e'.symm, hi⟩

theorem mod_sim (S : Sim bs w φ h) {b : Nat} {x : Blk} (hb : b < h.length) (T : Tr w φ h w' φ' (h.set b x)) (hφ : ∀ i, i ≠ b → φ' i = φ i)
    (hw : ∀ i, i ≠ b → ∀ k, φ i = some k → w'.heap[k]? = w.heap[k]?) (hk : ∀ k, φ' b = some k → k < w'.heap.size ∧ ∀ i, i ≠ b → φ i ≠ some k)
    (hx : ∀ B, (B = h.length ∨ B ∈ bs) → b < B → BlkOk w' φ' (h.set b x) B b x) : Sim bs w' φ' (h.set b x) := by
  refine S.step T ?_ ?_ ?_
  · intro i j k hi hj
    by_cases h1 : i = b <;> by_cases h2 : j = b
    · omega
    · subst h1; rw [hφ j h2] at hj; exact absurd hj ((hk k hi).2 j h2)
    · subst h2; rw [hφ i h1] at hi; exact absurd hi ((hk k hj).2 i h1)
    · rw [hφ i h1] at hi; rw [hφ j h2] at hj; exact S.inj i j k hi hj
  · intro i k hi
    by_cases h1 : i = b
    · subst h1; exact ⟨by simpa using hb, (hk k hi).1⟩
    · rw [hφ i h1] at hi; have := S.dom i k hi; exact ⟨by simpa using this.1, Nat.lt_of_lt_of_le this.2 T.size⟩
  · intro i y hy
    rcases set_get hy with ⟨h1, h2⟩ | ⟨h1, h2, _⟩
    · exact .inl ⟨h2, hφ i h1, hw i h1⟩
    · subst h1; subst h2
      exact .inr fun B hB hlt => hx B (by rcases hB with rfl | hB; exact .inl (by simp); exact .inr hB) hlt

/-- A block written over in its place. -/
theorem put_tr (S : Sim bs w φ h) {b k : Nat} {x x' : Blk} (hx : h[b]? = some x) (hk : φ b = some k) {cells cells' : Array Value} {et : TypeId} {fz : Nat × Nat}
    (hw : w.heap[k]? = some (.cells cells et fz)) (hs : cells'.size = cells.size)
    (hxx : (∃ cs cs', x = .var cs ∧ x' = .var cs') ∨ ∃ ver ver' sz sz' rows rows', x = .vec ver sz rows ∧ x' = .vec ver' sz' rows' ∧ ver ≤ ver' ∧ (ver = ver' → sz = sz' ∧ rows.length = rows'.length)) :
    Tr w φ h (putB w k (.cells cells' et fz)) φ (h.set b x') := by
  refine ⟨rfl, rfl, rfl, by simp, by simp, ?_, ?_, ?_, rfl⟩
  · intro j _ hφ
    exact ⟨putB_ne w _ (fun e => by subst e; exact hφ b hk), hφ⟩
  · intro i cs hc
    by_cases hi : i = b
    · subst hi
      rcases hxx with ⟨cs1, cs2, e1, e2⟩ | ⟨ver, ver', sz, sz', rows, rows', e1, e2, _⟩
      · subst e2; exact ⟨⟨cs2, by rw [List.getElem?_set_self (idx_lt hx)]⟩, rfl⟩
      · rw [hx, e1] at hc; exact absurd hc (by simp)
    · exact ⟨⟨cs, by rw [List.getElem?_set_ne (fun e => hi e.symm)]; exact hc⟩, rfl⟩
  · intro i hi ver2 sz2 rows2 hh
    have hsize : ∀ j, φ i = some j → cellsIn (putB w k (.cells cells' et fz)) j = cellsIn w j := by
      intro j hj
      by_cases e : j = k
      · subst e; simp only [cellsIn, putB_same w _ (blk_lt hw), hw, hs]
      · simp only [cellsIn, putB_ne w _ e]
    rcases set_get hh with ⟨h1, h2⟩ | ⟨h1, h2, _⟩
    · exact ⟨ver2, sz2, rows2, h2, Nat.le_refl _, fun _ => ⟨rfl, rfl, rfl, hsize⟩⟩
    · subst h1
      rcases hxx with ⟨cs1, cs2, e1, e2⟩ | ⟨ver, ver', sz, sz', rows, rows', e1, e2, hle, hsm⟩
      · rw [e2] at h2; exact absurd h2 (by simp)
      · rw [e2] at h2
        injection h2 with a1 a2 a3
        subst a1; subst a2; subst a3
        exact ⟨ver, sz, rows, hx.trans (congrArg some e1), hle, fun e => ⟨(hsm e).1, (hsm e).2, rfl, hsize⟩⟩

theorem put_sim (S : Sim bs w φ h) {b k : Nat} {x x' : Blk} (hx : h[b]? = some x) (hk : φ b = some k) {cells cells' : Array Value} {et : TypeId} {fz : Nat × Nat}
    (hw : w.heap[k]? = some (.cells cells et fz)) (hs : cells'.size = cells.size)
    (hxx : (∃ cs cs', x = .var cs ∧ x' = .var cs') ∨ ∃ ver ver' sz sz' rows rows', x = .vec ver sz rows ∧ x' = .vec ver' sz' rows' ∧ ver ≤ ver' ∧ (ver = ver' → sz = sz' ∧ rows.length = rows'.length))
    (hok : ∀ B, (B = h.length ∨ B ∈ bs) → b < B → BlkOk (putB w k (.cells cells' et fz)) φ (h.set b x') B b x') : Sim bs (putB w k (.cells cells' et fz)) φ (h.set b x') := by
  refine mod_sim S (idx_lt hx) (put_tr S hx hk hw hs hxx) (fun _ _ => rfl) ?_ ?_ hok
  · intro i hi j hj
    exact putB_ne w _ (fun e => hi (S.inj i b k (e ▸ hj) hk))
  · intro j hj
    rw [hk] at hj; injection hj with hj; subst hj
    exact ⟨by simpa using blk_lt hw, fun i hi e => hi (S.inj i b k e hk)⟩

/-- A row that is moved to a new block. -/
theorem move_tr (S : Sim bs w φ h) {b ver sz : Nat} {rows : List (List A)} (hx : h[b]? = some (.vec ver sz rows)) (cells : Array Value) (et : TypeId) (sz' : Nat) (rows' : List (List A)) :
    Tr w φ h (w.alloc (.cells cells et)) (upd φ b (some w.heap.size)) (h.set b (.vec (ver + 1) sz' rows')) := by
  refine ⟨rfl, rfl, rfl, by simp, by simp, ?_, ?_, ?_, rfl⟩
  · intro k hk hφ
    refine ⟨heap_push_lt w _ k hk, fun i => ?_⟩
    by_cases hi : i = b
    · subst hi; rw [upd_same]; intro e; injection e with e; omega
    · rw [upd_ne _ _ hi]; exact hφ i
  · intro i cs hc
    have hi : i ≠ b := fun e => by subst e; rw [hx] at hc; exact absurd hc (by simp)
    exact ⟨⟨cs, by rw [List.getElem?_set_ne (fun e => hi e.symm)]; exact hc⟩, upd_ne _ _ hi⟩
  · intro i hi ver2 sz2 rows2 hh
    rcases set_get hh with ⟨h1, h2⟩ | ⟨h1, h2, _⟩
    · refine ⟨ver2, sz2, rows2, h2, Nat.le_refl _, fun _ => ⟨rfl, rfl, upd_ne _ _ h1, fun k hk => ?_⟩⟩
      have := (S.dom i k hk).2
      simp only [cellsIn, heap_push_lt w _ k this]
    · subst h1
      injection h2 with a1 a2 a3
      subst a1
      exact ⟨ver, sz, rows, hx, by omega, fun e => by omega⟩

theorem move_sim (S : Sim bs w φ h) {b ver sz : Nat} {rows : List (List A)} (hx : h[b]? = some (.vec ver sz rows)) (cells : Array Value) (et : TypeId) (sz' : Nat) (rows' : List (List A))
    (hok : ∀ B, (B = h.length ∨ B ∈ bs) → b < B → BlkOk (w.alloc (.cells cells et)) (upd φ b (some w.heap.size)) (h.set b (.vec (ver + 1) sz' rows')) B b (.vec (ver + 1) sz' rows')) :
    Sim bs (w.alloc (.cells cells et)) (upd φ b (some w.heap.size)) (h.set b (.vec (ver + 1) sz' rows')) := by
  refine mod_sim S (idx_lt hx) (move_tr S hx cells et sz' rows') (fun i hi => upd_ne _ _ hi) (fun i hi k hk => heap_push_lt w _ k (S.dom i k hk).2) ?_ hok
  intro k hk
  rw [upd_same] at hk; injection hk with hk; subst hk
  exact ⟨by simp, fun i hi e => by have := (S.dom i _ e).2; omega⟩

/-- A block given up: what it holds is read, and no more written. -/
theorem kill_tr {b : Nat} (hb : ∀ cs, h[b]? ≠ some (.var cs)) : Tr w φ h w (upd φ b none) (h.set b .dead) := by
  refine ⟨rfl, rfl, rfl, Nat.le_refl _, by simp, ?_, ?_, ?_, rfl⟩
  · intro k _ hφ
    refine ⟨rfl, fun i => ?_⟩
    by_cases hi : i = b
    · subst hi; rw [upd_same]; simp
    · rw [upd_ne _ _ hi]; exact hφ i
  · intro i cs hc
    have hi : i ≠ b := fun e => by subst e; exact hb cs hc
    exact ⟨⟨cs, by rw [List.getElem?_set_ne (fun e => hi e.symm)]; exact hc⟩, upd_ne _ _ hi⟩
  · intro i hi ver2 sz2 rows2 hh
    rcases set_get hh with ⟨h1, h2⟩ | ⟨h1, h2, _⟩
    · exact ⟨ver2, sz2, rows2, h2, Nat.le_refl _, fun _ => ⟨rfl, rfl, upd_ne _ _ h1, fun _ _ => rfl⟩⟩
    · exact absurd h2 (by simp)

theorem kill_sim (S : Sim bs w φ h) {b : Nat} (hlt : b < h.length) (hb : ∀ cs, h[b]? ≠ some (.var cs)) : Sim bs w (upd φ b none) (h.set b .dead) := by
  refine mod_sim S hlt (kill_tr hb) (fun i hi => upd_ne _ _ hi) (fun _ _ _ _ => rfl) ?_ ?_
  · intro k hk; rw [upd_same] at hk; exact absurd hk (by simp)
  · intro B _ _; exact upd_same _ _ _

/-- The rows that a row of the call's own holds from 'off' on, to be read. -/
theorem own_frozen (S : Sim bs w φ h) {b ver sz off n : Nat} {rows : List (List A)} (hx : h[b]? = some (.vec ver sz rows)) {ao : Option Addr} {c : Nat} (hb : b < h.length) (hn : n ≤ c)
    (ho : OwnOk w φ h b ver off n ao c) {w2 : World} {φ2 : Phi} {h2 : Heap} {B2 : Nat} (T : Tr w φ h w2 φ2 h2) (hfree : ∀ k, φ b = some k → w2.heap[k]? = w.heap[k]? ∧ ∀ i, φ2 i ≠ some k) :
    Rep w2 φ2 h2 B2 (.sl ((rows.drop off).take n)) (.slice ao n c) := by
  obtain ⟨hlen, hcap, hnone, hsome⟩ := ho.now _ _ hx
  cases n with
  | zero => rw [List.take_zero]; exact .sl0 _ ao c
  | succ n =>
    have hbk := S.blk h.length (.inl rfl) b _ hb hx
    rcases hbk with ⟨a1, a2, a3⟩ | ⟨k, et, fz, cells, a1, a2, a3, a4, a5, a6⟩
    · have := hnone a1; omega
    · obtain ⟨haddr, _⟩ := hsome k a1
      have hao : ao = some ⟨k, off * sz, none⟩ := by rcases haddr with e | e; exact e; omega
      subst hao
      obtain ⟨hw2, hf2⟩ := hfree k a1
      have hk2 : k < w2.heap.size := Nat.lt_of_lt_of_le (blk_lt a2) T.size
      -- cells of a row
      have hcells : ∀ (row : List A) (vs : List Value) (o : Nat), RepL w φ h 0 row vs → (∀ (j : Nat) (v : Value), vs[j]? = some v → cells[o + j]? = some v) → RepCells w2 φ2 h2 k o row := by
        intro row
        induction row with
        | nil => intro vs o _ _; exact .nil _ _
        | cons a as ih =>
          intro vs o hl hv
          cases hl with
          | cons _ _ _ v vs ha hr =>
            refine .cons _ _ _ _ v ?_ (ha.tr T (Nat.zero_le _) (Nat.le_refl _)) (ih vs (o + 1) hr fun j u hj => ?_)
            · simp only [World.cell?, hw2, a2]
              have := hv 0 v rfl
              simpa using this
            · have := hv (j + 1) u (by simpa using hj)
              rwa [show o + 1 + j = o + (j + 1) by omega]
      have hrows : ∀ (m i : Nat), i + m ≤ rows.length → RepRows w2 φ2 h2 k sz (i * sz) ((rows.drop i).take m) := by
        intro m
        induction m with
        | zero => intro i _; rw [List.take_zero]; exact .nil _ _ _
        | succ m ih =>
          intro i hi
          have hlt : i < rows.length := by omega
          rw [List.drop_eq_getElem_cons hlt, List.take_succ_cons]
          obtain ⟨r1, r2⟩ := a6 i rows[i] (List.getElem?_eq_getElem hlt)
          refine .cons _ _ _ _ _ r1 (hcells _ _ _ r2 fun j v hj => ?_) ?_
          · rw [List.getElem?_take] at hj
            split at hj
            · rw [List.getElem?_drop] at hj
              rw [← Array.getElem?_toList]; exact hj
            · exact absurd hj (by simp)
          · have := ih (i + 1) (by omega)
            rwa [Nat.succ_mul] at this
      have hr := hrows (n + 1) off (by omega)
      have hlt : off < rows.length := by omega
      rw [List.drop_eq_getElem_cons hlt, List.take_succ_cons] at hr ⊢
      have hl : (((rows.drop (off + 1)).take n)).length = n := by simp; omega
      have := Rep.sl1 (w := w2) (φ := φ2) (h := h2) B2 rows[off] ((rows.drop (off + 1)).take n) k (off * sz) sz c (by rw [hl]; exact hn) hk2 ⟨hf2, by rw [T.fr]; exact S.frn b k a1⟩ hr
      rwa [hl] at this
end
end Go.Proofs.Ytckjogpdnkocbaa.Den
namespace Go.Proofs.Ytckjogpdnkocbaa.Den

theorem tab_inv {P : Program} {t : TypeId} {ti : TI} (ht : tab P t = some ti) : ∃ i d, P.info? t = some i ∧ P.underlying t = some d ∧ ti = tiOf i d := by
  unfold tab at ht
  split at ht
  · rename_i i d h1 h2
    injection ht with ht
    exact ⟨i, d, h1, h2, ht.symm⟩
  · exact absurd ht (by simp)

structure RelE (w : World) (φ : Phi) (h : Heap) (nt : Nat) (env : Env) (a : Act) : Prop where
  defers : a.defers = []
  size : a.tmps.size = nt
  rep : ∀ t, Rep w φ h h.length (get env t) (a.tmps.getD t undef)

/-- An instruction runs, and what it gives is as told. -/
def Goes (P : Program) (m : Sem Value) (bs : List Nat) (w : World) (φ : Phi) (h : Heap) (r : A × Heap) : Prop :=
  ∃ v w' φ', m.run P w = .ok v w' ∧ Tr w φ h w' φ' r.2 ∧ Sim bs w' φ' r.2 ∧ Rep w' φ' r.2 r.2.length r.1 v

section
variable {P : Program} {w w' : World} {φ φ' : Phi} {h h' : Heap} {B B' : Nat} {bs : List Nat} {env : Env} {nt : Nat} {act : Act}

theorem Goes.same (S : Sim bs w φ h) {m : Sem Value} {a : A} {v : Value} (hm : m.run P w = .ok v w) (hr : Rep w φ h h.length a v) : Goes P m bs w φ h (a, h) :=
  ⟨v, w, φ, hm, Tr.refl _ _ _, S, hr⟩

theorem RelE.tr (R : RelE w φ h nt env act) (T : Tr w φ h w' φ' h') : RelE w' φ' h' nt env act :=
  ⟨R.defers, R.size, fun t => (R.rep t).tr T (Nat.le_refl _) T.len⟩

theorem RelE.put (R : RelE w φ h nt env act) {d : Option Tmp} (hd : okDst nt d = true) {a : A} {v : Value} (hr : Rep w φ h h.length a v) : RelE w φ h nt (put env d a) (act.put d v) := by
  cases d with
  | none => exact R
  | some d =>
    have hlt : d < nt := by simpa [okDst] using hd
    refine ⟨R.defers, by simp [Act.put, R.size], fun t => ?_⟩
    simp only [Den.put, get, Act.put]
    by_cases e : d = t
    · subst e
      rw [if_pos rfl]
      have : (act.tmps.setIfInBounds d v).getD d undef = v := by simp [Array.getD, R.size, hlt]
      rw [this]; exact hr
    · rw [if_neg e]
      have : (act.tmps.setIfInBounds d v).getD t undef = act.tmps.getD t undef := by
        simp only [Array.getD_eq_getD_getElem?, Array.getElem?_setIfInBounds, if_neg e]
      rw [this]; exact R.rep t

theorem rep_absV (v : Value) : Rep w φ h B (absV v) v := by
  unfold absV
  split
  · exact .bool _ _
  · exact .int _ _ _
  · rename_i s; exact .str _ _
  · exact .sl0 _ _ _
  · exact .nilif _
  · exact .nilp _
  · exact .undef _ _

theorem repL_absV : ∀ vs : List Value, RepL w φ h B (vs.map absV) vs
  | [] => .nil _
  | v :: vs => .cons _ _ _ _ _ (rep_absV v) (repL_absV vs)

theorem rep_absC (v : Value) : Rep w φ h B (absC v) v := by
  unfold absC
  split
  · rename_i cs; exact .agg _ _ cs.toList (repL_absV _)
  · exact rep_absV _

theorem RelE.ev (R : RelE w φ h nt env act) (x : Operand) : Rep w φ h h.length (ev env x) (act.eval x) := by
  cases x with
  | tmp t => exact R.rep t
  | const v => exact rep_absC v
  | global g => exact .undef _ _
  | func f => exact .fn _ f [] [] (.nil _)

theorem RelE.evL (R : RelE w φ h nt env act) : ∀ xs : List Operand, RepL w φ h h.length (xs.map (Den.ev env)) (xs.map act.eval)
  | [] => .nil _
  | x :: xs => .cons _ _ _ _ _ (R.ev x) (R.evL xs)

theorem virt1_ok (S : Sim bs w φ h) (v : Value) : Tr w φ h w φ (virt1 v h).2 ∧ Sim bs w φ (virt1 v h).2 ∧ Rep w φ (virt1 v h).2 (virt1 v h).2.length (virt1 v h).1 v := by
  unfold virt1
  split
  · exact ⟨virt_tr, virt_sim S, by simpa using virt_rep S none⟩
  · exact ⟨Tr.refl _ _ _, S, rep_absV _⟩

theorem virtL_ok : ∀ (vs : List Value) {h : Heap}, Sim bs w φ h → Tr w φ h w φ (virtL vs h).2 ∧ Sim bs w φ (virtL vs h).2 ∧ RepL w φ (virtL vs h).2 (virtL vs h).2.length (virtL vs h).1 vs
  | [], _, S => ⟨Tr.refl _ _ _, S, .nil _⟩
  | v :: vs, h, S => by
    obtain ⟨T1, S1, R1⟩ := virt1_ok S v
    obtain ⟨T2, S2, R2⟩ := virtL_ok vs S1
    exact ⟨T1.trans T2, S2, .cons _ _ _ _ _ (R1.tr T2 (Nat.le_refl _) T2.len) R2⟩

theorem virt_ok (S : Sim bs w φ h) (v : Value) : Tr w φ h w φ (virt v h).2 ∧ Sim bs w φ (virt v h).2 ∧ Rep w φ (virt v h).2 (virt v h).2.length (virt v h).1 v := by
  unfold virt
  split
  · rename_i cs
    obtain ⟨T, S', R⟩ := virtL_ok cs.toList S
    exact ⟨T, S', .agg _ _ cs.toList R⟩
  · exact virt1_ok S _

theorem RelE.evN (R : RelE w φ h nt env act) (S : Sim bs w φ h) (x : Operand) :
    Tr w φ h w φ (evN env x h).2 ∧ Sim bs w φ (evN env x h).2 ∧ Rep w φ (evN env x h).2 (evN env x h).2.length (evN env x h).1 (act.eval x) := by
  unfold Den.evN
  split
  · exact virt_ok S _
  · rename_i hx
    refine ⟨Tr.refl _ _ _, S, ?_⟩
    exact R.ev x

/-! What stands in a place. -/
def Seg (w : World) (φ : Phi) (h : Heap) (k off : Nat) (row : List A) : Prop :=
  ∃ vs, RepL w φ h h.length row vs ∧ ∀ (j : Nat) (v : Value), vs[j]? = some v → w.cell? ⟨k, off + j, none⟩ = some v

theorem Seg.of_cells : ∀ {row : List A} {b off : Nat}, RepCells w φ h b off row → Seg w φ h b off row
  | [], _, _, _ => ⟨[], .nil _, fun j v hj => by simp at hj⟩
  | a :: as, b, off, hc => by
    cases hc with
    | cons _ _ _ _ v hc ha hr =>
      obtain ⟨vs, h1, h2⟩ := Seg.of_cells hr
      refine ⟨v :: vs, .cons _ _ _ _ _ (ha.mono (Nat.zero_le _) (Nat.zero_le _)) h1, fun j u hj => ?_⟩
      cases j with
      | zero => simp at hj; subst hj; simpa using hc
      | succ j => have := h2 j u (by simpa using hj); rwa [show off + (j + 1) = off + 1 + j by omega]

theorem Seg.of_var (S : Sim bs w φ h) {b k : Nat} {cs : List A} (hx : h[b]? = some (.var cs)) (hk : φ b = some k) : Seg w φ h k 0 cs := by
  obtain ⟨k', et, fz, cells, a1, a2, a3, a4⟩ := S.blk h.length (.inl rfl) b _ (idx_lt hx) hx
  rw [hk] at a1; injection a1 with a1; subst a1
  exact ⟨cells.toList, a4, fun j v hj => by simpa [World.cell?, a2] using hj⟩

theorem Seg.of_vec (S : Sim bs w φ h) {b k ver sz i : Nat} {rows : List (List A)} {row : List A} (hx : h[b]? = some (.vec ver sz rows)) (hk : φ b = some k) (hi : rows[i]? = some row) : Seg w φ h k (i * sz) row := by
  rcases S.blk h.length (.inl rfl) b _ (idx_lt hx) hx with ⟨a1, _⟩ | ⟨k', et, fz, cells, a1, a2, a3, a4, a5, a6⟩
  · rw [hk] at a1; exact absurd a1 (by simp)
  · rw [hk] at a1; injection a1 with a1; subst a1
    obtain ⟨r1, r2⟩ := a6 i row hi
    refine ⟨_, r2.mono (Nat.zero_le _) (Nat.zero_le _), fun j v hj => ?_⟩
    rw [List.getElem?_take] at hj
    split at hj
    · rw [List.getElem?_drop] at hj
      simpa [World.cell?, a2] using hj
    · exact absurd hj (by simp)

theorem isAgg_run {t : TypeId} {i : TypeInfo} {d : TypeDesc} (hd : P.underlying t = some d) : (isAgg t).run P w = .ok (tiOf i d).agg w := by
  simp only [isAgg, Sem.run_bind, run_underlying hd, Result.andThen]
  cases d <;> rfl
theorem sizeOf_run {t : TypeId} {i : TypeInfo} (hi : P.info? t = some i) : (sizeOf t).run P w = .ok i.size w := by
  simp [sizeOf, typeInfo, hi]
theorem typeInfo_run {t : TypeId} {i : TypeInfo} (hi : P.info? t = some i) : (typeInfo t).run P w = .ok i w := by
  simp [typeInfo, hi]

theorem loadVar_ok {t : TypeId} {ti : TI} (ht : tab P t = some ti) {k off j : Nat} {row : List A} (hs : Seg w φ h k off row) {a : A} (hl : loadA ti.agg ti.size row j = some a) :
    ∃ v, (loadVar t ⟨k, off + j, none⟩).run P w = .ok v w ∧ Rep w φ h h.length a v := by
  obtain ⟨i, d, hi, hd, rfl⟩ := tab_inv ht
  obtain ⟨vs, hvs, hcell⟩ := hs
  unfold loadA at hl
  by_cases hag : (tiOf i d).agg = true
  · rw [if_pos hag] at hl
    split at hl
    · rename_i hle
      injection hl with hl; subst hl
      have hlen := hvs.length_eq
      refine ⟨.agg (((vs.drop j).take i.size).toArray), ?_, .agg _ _ _ ((hvs.drop j).take i.size)⟩
      have hl2 : ((vs.drop j).take i.size).length = i.size := by
        have : j + i.size ≤ vs.length := by rw [← hlen]; exact hle
        simp; omega
      have := run_loadCells_list (P := P) w ⟨k, off + j, none⟩ ((vs.drop j).take i.size) (fun m v hm => by
        rw [Addr.add_lit]
        rw [List.getElem?_take] at hm
        split at hm
        · rw [List.getElem?_drop] at hm
          have := hcell (j + m) v hm
          rwa [show off + (j + m) = off + j + m by omega] at this
        · exact absurd hm (by simp))
      rw [hl2] at this
      simp only [loadVar, Sem.run_bind, isAgg_run (i := i) hd, hag, Result.andThen, if_true, sizeOf_run hi, this]
      rfl
    · exact absurd hl (by simp)
  · rw [if_neg hag] at hl
    obtain ⟨v, hv, hr⟩ := hvs.get j a hl
    refine ⟨v, ?_, hr⟩
    have hag' : (tiOf i d).agg = false := by simpa using hag
    simp [loadVar, isAgg_run (i := i) hd, hag', load, Sem.run, hcell j v hv]

theorem loadAt_ok (S : Sim bs w φ h) {t : TypeId} {ti : TI} (ht : tab P t = some ti) {p a : A} {u : Value} (hp : Rep w φ h h.length p u) (hl : loadAt ti.agg ti.size h p = some a) :
    Goes P (Instr.loadAt t u) bs w φ h (a, h) := by
  cases hp with
  | ptr _ b j k hb hv hk =>
    simp only [loadAt] at hl
    cases hx : h[b]? with
    | none => simp [hx] at hl
    | some x =>
      cases x with
      | var cs =>
        simp only [hx] at hl
        obtain ⟨v, h1, h2⟩ := loadVar_ok ht (Seg.of_var S hx hk) hl
        refine Goes.same S (v := v) ?_ h2
        simpa [Instr.loadAt, Instr.sureAddr] using h1
      | dead => simp [hx] at hl
      | vec => simp [hx] at hl
  | vptr _ b ver i j p hb hp =>
    simp only [loadAt] at hl
    cases hx : h[b]? with
    | none => simp [hx] at hl
    | some x =>
      cases x with
      | vec ver' sz rows =>
        simp only [hx] at hl
        split at hl
        · rename_i e
          subst e
          cases hr : rows[i]? with
          | none => simp [hr] at hl
          | some row =>
            simp only [hr] at hl
            obtain ⟨k, hk, rfl⟩ := hp.now _ _ hx
            obtain ⟨v, h1, h2⟩ := loadVar_ok ht (Seg.of_vec S hx hk hr) hl
            refine Goes.same S (v := v) ?_ h2
            simpa [Instr.loadAt, Instr.sureAddr] using h1
        · exact absurd hl (by simp)
      | dead => simp [hx] at hl
      | var => simp [hx] at hl
  | eptr _ row j b off hb hφ hr =>
    simp only [loadAt] at hl
    obtain ⟨v, h1, h2⟩ := loadVar_ok ht (Seg.of_cells hr) hl
    refine Goes.same S (v := v) ?_ h2
    simpa [Instr.loadAt, Instr.sureAddr] using h1
  | _ => simp [loadAt] at hl
end
end Go.Proofs.Ytckjogpdnkocbaa.Den
namespace Go.Proofs.Ytckjogpdnkocbaa.Den

section
variable {P : Program} {w w' : World} {φ φ' : Phi} {h h' : Heap} {B B' : Nat} {bs : List Nat} {env : Env} {nt : Nat} {act : Act}

theorem frz1_ok (S : Sim bs w φ h) {a a' : A} {h1 : Heap} (hf : frz1 h a = some (a', h1)) {v : Value} (hr : Rep w φ h B a v) :
    ∃ φ1, Tr w φ h w φ1 h1 ∧ Sim bs w φ1 h1 ∧ ∀ B2, Rep w φ1 h1 B2 a' v := by
  cases hr with
  | own _ b ver off n ao c hb hn ho =>
    simp only [frz1] at hf
    cases hx : h[b]? with
    | none => simp [hx] at hf
    | some x =>
      cases x with
      | vec ver' sz rows =>
        simp only [hx] at hf
        split at hf
        · rename_i e
          subst e
          injection hf with hf
          injection hf with e1 e2
          subst e1; subst e2
          have hnv : ∀ cs, h[b]? ≠ some (.var cs) := by intro cs hc; rw [hx] at hc; exact absurd hc (by simp)
          refine ⟨upd φ b none, kill_tr hnv, kill_sim S (idx_lt hx) hnv, fun B2 => ?_⟩
          exact own_frozen S hx (idx_lt hx) hn ho (kill_tr hnv) (fun k hk => ⟨rfl, fun i hi => by
            by_cases e : i = b
            · subst e; rw [upd_same] at hi; exact absurd hi (by simp)
            · rw [upd_ne _ _ e] at hi; exact e (S.inj i b k hi hk)⟩)
        · exact absurd hf (by simp)
      | dead => simp [hx] at hf
      | var => simp [hx] at hf
  | bool => injection hf with hf; injection hf with e1 e2; subst e1; subst e2; exact ⟨φ, Tr.refl _ _ _, S, fun _ => .bool _ _⟩
  | int => injection hf with hf; injection hf with e1 e2; subst e1; subst e2; exact ⟨φ, Tr.refl _ _ _, S, fun _ => .int _ _ _⟩
  | str => injection hf with hf; injection hf with e1 e2; subst e1; subst e2; exact ⟨φ, Tr.refl _ _ _, S, fun _ => .str _ _⟩
  | nilp => injection hf with hf; injection hf with e1 e2; subst e1; subst e2; exact ⟨φ, Tr.refl _ _ _, S, fun _ => .nilp _⟩
  | nilif => injection hf with hf; injection hf with e1 e2; subst e1; subst e2; exact ⟨φ, Tr.refl _ _ _, S, fun _ => .nilif _⟩
  | errv => injection hf with hf; injection hf with e1 e2; subst e1; subst e2; exact ⟨φ, Tr.refl _ _ _, S, fun _ => .errv _ _ _⟩
  | sl0 => injection hf with hf; injection hf with e1 e2; subst e1; subst e2; exact ⟨φ, Tr.refl _ _ _, S, fun _ => .sl0 _ _ _⟩
  | sl1 _ row rows b off sz c hc hb hφ hr => injection hf with hf; injection hf with e1 e2; subst e1; subst e2; exact ⟨φ, Tr.refl _ _ _, S, fun _ => .sl1 _ _ _ _ _ _ _ hc hb hφ hr⟩
  | _ => simp [frz1] at hf

theorem frzL_ok : ∀ (as : List A) {φ : Phi} {h : Heap} {as' : List A} {h1 : Heap} {vs : List Value} {B : Nat}, Sim bs w φ h → B ≤ h.length → frzL as h = some (as', h1) → RepL w φ h B as vs →
    ∃ φ1, Tr w φ h w φ1 h1 ∧ Sim bs w φ1 h1 ∧ ∀ B2, RepL w φ1 h1 B2 as' vs
  | [], φ, h, _, _, _, _, S, _, hf, hr => by
    injection hf with hf; injection hf with e1 e2; subst e1; subst e2
    cases hr
    exact ⟨φ, Tr.refl _ _ _, S, fun _ => .nil _⟩
  | a :: as, φ, h, _, _, _, _, S, hB, hf, hr => by
    cases hr with
    | cons _ _ _ v vs ha hr =>
      simp only [frzL] at hf
      cases h1 : frz1 h a with
      | none => simp [h1] at hf
      | some p =>
        obtain ⟨a', h1'⟩ := p
        simp only [h1] at hf
        cases h2 : frzL as h1' with
        | none => simp [h2] at hf
        | some q =>
          obtain ⟨as', h2'⟩ := q
          simp only [h2] at hf
          injection hf with hf; injection hf with e1 e2; subst e1; subst e2
          obtain ⟨φ1, T1, S1, R1⟩ := frz1_ok S h1 ha
          obtain ⟨φ2, T2, S2, R2⟩ := frzL_ok as S1 (Nat.le_trans hB T1.len) h2 (hr.tr T1 hB (Nat.le_refl _))
          exact ⟨φ2, T1.trans T2, S2, fun B2 => .cons _ _ _ _ _ ((R1 0).tr T2 (Nat.zero_le _) (Nat.zero_le _)) (R2 B2)⟩

/-! Stores. -/
def setVals (cells : List Value) (j : Nat) : List Value → List Value
  | [] => cells
  | v :: vs => setVals (cells.set j v) (j + 1) vs

theorem setVals_length : ∀ (vs cells : List Value) (j : Nat), (setVals cells j vs).length = cells.length
  | [], _, _ => rfl
  | v :: vs, cells, j => by simp [setVals, setVals_length vs]

theorem setCells_length : ∀ (vs cells : List A) (j : Nat), (setCells cells j vs).length = cells.length
  | [], _, _ => rfl
  | v :: vs, cells, j => by simp [setCells, setCells_length vs]

theorem RepL.setCells : ∀ {as : List A} {vs : List Value} {cs : List A} {us : List Value} (j : Nat), RepL w φ h B cs us → RepL w φ h B as vs → RepL w φ h B (setCells cs j as) (setVals us j vs)
  | [], _, _, _, _, hc, hl => by cases hl; exact hc
  | a :: as, _, _, _, j, hc, hl => by
    cases hl with
    | cons _ _ _ v vs ha hr => exact RepL.setCells (j + 1) (hc.set j ha) hr

theorem stor_val {a : A} (ha : stor1 a = true) {v : Value} (hr : Rep w φ h B a v) : (∀ cs, v ≠ .agg cs) ∧ ∀ cs, v ≠ .tuple cs := by
  cases hr <;> first | (simp [stor1] at ha; done) | (constructor <;> intro cs hc <;> exact absurd hc (by simp))

theorem store_run {a : Addr} {v : Value} {c : Value} (h1 : ∀ cs, v ≠ .agg cs) (h2 : ∀ cs, v ≠ .tuple cs) (hc : w.cell? a = some c) (hf : w.frozen? a = false) :
    (store a v).run P w = .ok () (w.setCell a v) := by
  unfold store
  cases v <;> first | exact absurd rfl (h1 _) | exact absurd rfl (h2 _) | simp [Sem.run, hc, hf]

theorem storeCells_ok (k : Nat) : ∀ (vs : List Value) (o i : Nat) (w : World) (cells : Array Value) (et : TypeId) (fz : Nat × Nat), w.heap[k]? = some (.cells cells et fz) → NoFz fz cells.size → o + i + vs.length ≤ cells.size →
    (∀ v, v ∈ vs → (∀ cs, v ≠ .agg cs) ∧ ∀ cs, v ≠ .tuple cs) →
    (storeCells ⟨k, o, none⟩ vs i).run P w = .ok () (putB w k (.cells (setVals cells.toList (o + i) vs).toArray et fz))
  | [], o, i, w, cells, et, fz, hk, _, _, _ => by
    have e : w.heap.setIfInBounds k (Obj.cells cells et fz) = w.heap := by
      apply Array.ext_getElem?
      intro j
      rw [Array.getElem?_setIfInBounds]
      split
      · rename_i e; subst e; rw [hk]; simp [blk_lt hk]
      · rfl
    simp only [storeCells, setVals, Sem.run_pure, putB, Array.toArray_toList, e]
  | v :: vs, o, i, w, cells, et, fz, hk, hz, hlen, hv => by
    obtain ⟨h1, h2⟩ := hv v (by simp)
    have hlt : o + i < cells.size := by simp at hlen; omega
    have hc : w.cell? ⟨k, o + i, none⟩ = some cells[o + i] := by simp [World.cell?, hk, hlt]
    have hf : w.frozen? ⟨k, o + i, none⟩ = false := by
      have := hz (o + i) hlt
      simp only [World.frozen?, hk]
      simpa using this
    have hset : w.setCell ⟨k, o + i, none⟩ v = putB w k (.cells (cells.setIfInBounds (o + i) v) et fz) := by
      simp only [World.setCell, putB]
      congr 1
      apply Array.ext_getElem?
      intro j
      rw [Array.getElem?_modify, Array.getElem?_setIfInBounds]
      split
      · rename_i e; subst e; rw [hk]; simp [blk_lt hk]
      · rfl
    simp only [storeCells, Sem.run_bind, Addr.add_lit, store_run h1 h2 hc hf, Result.andThen, hset]
    have hk' := putB_same w (.cells (cells.setIfInBounds (o + i) v) et fz) (blk_lt hk)
    rw [storeCells_ok k vs o (i + 1) _ _ et fz hk' (by simpa using hz) (by simp at hlen ⊢; omega) (fun u hu => hv u (by simp [hu]))]
    congr 1
    simp only [putB, setVals, Array.setIfInBounds_setIfInBounds]
    congr 4
    rw [show o + i + 1 = o + (i + 1) by omega]
    simp

theorem cells_toList {a : A} (ha : isUndef a = false) {v : Value} (hr : Rep w φ h B a v) : RepL w φ h B a.cells v.cells.toList := by
  cases hr with
  | agg _ cs vs hl => simpa [A.cells, Value.cells] using hl
  | undef => simp [isUndef] at ha
  | bool => exact .cons _ _ _ _ _ (.bool _ _) (.nil _)
  | int => exact .cons _ _ _ _ _ (.int _ _ _) (.nil _)
  | str => exact .cons _ _ _ _ _ (.str _ _) (.nil _)
  | nilp => exact .cons _ _ _ _ _ (.nilp _) (.nil _)
  | nilif => exact .cons _ _ _ _ _ (.nilif _) (.nil _)
  | errv => exact .cons _ _ _ _ _ (.errv _ _ _) (.nil _)
  | sl0 => exact .cons _ _ _ _ _ (.sl0 _ _ _) (.nil _)
  | sl1 _ row rows b off sz c hc hb hφ hr => exact .cons _ _ _ _ _ (.sl1 _ _ _ _ _ _ _ hc hb hφ hr) (.nil _)
  | own _ b ver off n ao c hb hn ho => exact .cons _ _ _ _ _ (.own _ _ _ _ _ _ _ hb hn ho) (.nil _)
  | tup _ cs vs hl => exact .cons _ _ _ _ _ (.tup _ _ _ hl) (.nil _)
  | ptr _ b j k hb hv hk => exact .cons _ _ _ _ _ (.ptr _ _ _ _ hb hv hk) (.nil _)
  | vptr _ b ver i j p hb hp => exact .cons _ _ _ _ _ (.vptr _ _ _ _ _ _ hb hp) (.nil _)
  | eptr _ row j b off hb hφ hr => exact .cons _ _ _ _ _ (.eptr _ _ _ _ _ hb hφ hr) (.nil _)
  | fn _ f caps vs hl => exact .cons _ _ _ _ _ (.fn _ _ _ _ hl) (.nil _)

theorem low1_rep (a : A) {n : Nat} (hl : low1 n a = true) {v : Value} (hr : Rep w φ h B a v) : Rep w φ h n a v := by
  cases hr with
  | own _ b ver off n' ao c hb hn ho => exact .own _ _ _ _ _ _ _ (by simpa [low1] using hl) hn ho
  | ptr _ b j k hb hv hk => exact .ptr _ _ _ _ (by simpa [low1] using hl) hv hk
  | vptr _ b ver i j p hb hp => exact .vptr _ _ _ _ _ _ (by simpa [low1] using hl) hp
  | fn _ f caps vs hl' =>
    cases caps with
    | nil => cases hl'; exact .fn _ _ _ _ (.nil _)
    | cons => simp [low1] at hl
  | eptr => simp [low1] at hl
  | agg => simp [low1] at hl
  | tup => simp [low1] at hl
  | undef => exact .undef _ _
  | bool => exact .bool _ _
  | int => exact .int _ _ _
  | str => exact .str _ _
  | nilp => exact .nilp _
  | nilif => exact .nilif _
  | errv => exact .errv _ _ _
  | sl0 => exact .sl0 _ _ _
  | sl1 _ row rows b off sz c hc hb hφ hr => exact .sl1 _ _ _ _ _ _ _ hc hb hφ hr

theorem low1_repL : ∀ {as : List A} {n : Nat}, as.all (low1 n) = true → ∀ {vs : List Value}, RepL w φ h B as vs → RepL w φ h n as vs
  | [], _, _, _, hr => by cases hr; exact .nil _
  | a :: as, n, hl, _, hr => by
    cases hr with
    | cons _ _ _ v vs ha hr =>
      simp only [List.all_cons, Bool.and_eq_true] at hl
      exact .cons _ _ _ _ _ (low1_rep a hl.1 ha) (low1_repL hl.2 hr)

/-- What escL leaves may be put into block b. -/
theorem escL_ok (S : Sim bs w φ h) {base b : Nat} (hb : b < h.length) {cs cs' : List A} {h1 : Heap} (he : escL base b cs h = some (cs', h1)) {vs : List Value} (hr : RepL w φ h h.length cs vs)
    (hbs : ∀ B, B ∈ bs → B ≤ base) :
    ∃ φ1, Tr w φ h w φ1 h1 ∧ Sim bs w φ1 h1 ∧ ∀ B, (B = h1.length ∨ B ∈ bs) → b < B → RepL w φ1 h1 B cs' vs := by
  unfold escL at he
  split at he
  · split at he
    · rename_i hlow
      injection he with he; injection he with e1 e2; subst e1; subst e2
      refine ⟨φ, Tr.refl _ _ _, S, fun B hB hlt => ?_⟩
      have h1 := low1_repL hlow hr
      have hBl : B ≤ h.length := by rcases hB with rfl | hB; exact Nat.le_refl _; exact S.bnd B hB
      exact h1.mono (by omega) (by omega)
    · obtain ⟨φ1, T1, S1, R1⟩ := frzL_ok cs S (Nat.le_refl _) he hr
      exact ⟨φ1, T1, S1, fun B _ _ => R1 B⟩
  · rename_i hge
    injection he with he; injection he with e1 e2; subst e1; subst e2
    refine ⟨φ, Tr.refl _ _ _, S, fun B hB hlt => ?_⟩
    rcases hB with rfl | hB
    · exact hr
    · have := hbs B hB; omega
end
end Go.Proofs.Ytckjogpdnkocbaa.Den
namespace Go.Proofs.Ytckjogpdnkocbaa.Den

theorem setVals_get : ∀ (vs cells : List Value) (o m : Nat), o + vs.length ≤ cells.length →
    (setVals cells o vs)[m]? = if o ≤ m ∧ m < o + vs.length then vs[m - o]? else cells[m]?
  | [], cells, o, m, _ => by
    simp only [setVals, List.length_nil, Nat.add_zero]
    rw [if_neg (by omega)]
  | v :: vs, cells, o, m, hl => by
    simp only [List.length_cons] at hl
    simp only [setVals, List.length_cons]
    rw [setVals_get vs (cells.set o v) (o + 1) m (by simp; omega)]
    by_cases h1 : o + 1 ≤ m ∧ m < o + 1 + vs.length
    · rw [if_pos h1, if_pos (by omega), show m - o = (m - (o + 1)) + 1 by omega, List.getElem?_cons_succ]
    · rw [if_neg h1]
      by_cases h2 : m = o
      · subst h2
        rw [if_pos (by omega), Nat.sub_self, List.getElem?_cons_zero, List.getElem?_set_self (by omega)]
      · rw [if_neg (by omega), List.getElem?_set_ne (fun e => h2 e.symm)]

theorem setCells_get : ∀ (vs cells : List A) (o m : Nat), o + vs.length ≤ cells.length →
    (setCells cells o vs)[m]? = if o ≤ m ∧ m < o + vs.length then vs[m - o]? else cells[m]?
  | [], cells, o, m, _ => by
    simp only [setCells, List.length_nil, Nat.add_zero]
    rw [if_neg (by omega)]
  | v :: vs, cells, o, m, hl => by
    simp only [List.length_cons] at hl
    simp only [setCells, List.length_cons]
    rw [setCells_get vs (cells.set o v) (o + 1) m (by simp; omega)]
    by_cases h1 : o + 1 ≤ m ∧ m < o + 1 + vs.length
    · rw [if_pos h1, if_pos (by omega), show m - o = (m - (o + 1)) + 1 by omega, List.getElem?_cons_succ]
    · rw [if_neg h1]
      by_cases h2 : m = o
      · subst h2
        rw [if_pos (by omega), Nat.sub_self, List.getElem?_cons_zero, List.getElem?_set_self (by omega)]
      · rw [if_neg (by omega), List.getElem?_set_ne (fun e => h2 e.symm)]

theorem frz1_stor {h : Heap} {a a' : A} {h1 : Heap} (hf : frz1 h a = some (a', h1)) : stor1 a' = true := by
  unfold frz1 at hf
  (repeat' split at hf) <;> first | (injection hf with hf; injection hf with e1 e2; subst e1; rfl) | (simp at hf; done)

theorem frzL_stor : ∀ {as : List A} {h : Heap} {as' : List A} {h1 : Heap}, frzL as h = some (as', h1) → as'.all stor1 = true ∧ as'.length = as.length
  | [], _, _, _, hf => by injection hf with hf; injection hf with e1 e2; subst e1; exact ⟨rfl, rfl⟩
  | a :: as, h, _, _, hf => by
    simp only [frzL] at hf
    cases h1 : frz1 h a with
    | none => simp [h1] at hf
    | some p =>
      obtain ⟨a', h1'⟩ := p
      simp only [h1] at hf
      cases h2 : frzL as h1' with
      | none => simp [h2] at hf
      | some q =>
        obtain ⟨as', h2'⟩ := q
        simp only [h2] at hf
        injection hf with hf; injection hf with e1 e2; subst e1
        obtain ⟨b1, b2⟩ := frzL_stor h2
        exact ⟨by simp [frz1_stor h1, b1], by simp [b2]⟩

section
variable {P : Program} {w w' : World} {φ φ' : Phi} {h h' : Heap} {B B' : Nat} {bs : List Nat} {env : Env} {nt : Nat} {act : Act}

theorem stor_vals : ∀ {B : Nat} {as : List A} {vs : List Value}, as.all stor1 = true → RepL w φ h B as vs → ∀ v, v ∈ vs → (∀ cs, v ≠ .agg cs) ∧ ∀ cs, v ≠ .tuple cs
  | _, [], _, _, hr, v, hv => by cases hr; simp at hv
  | _, a :: as, _, hs, hr, v, hv => by
    cases hr with
    | cons _ _ _ u us ha hr =>
      simp only [List.all_cons, Bool.and_eq_true] at hs
      rcases List.mem_cons.1 hv with e | hv
      · subst e; exact stor_val hs.1 ha
      · exact stor_vals hs.2 hr v hv

theorem escL_len {base b : Nat} {cs cs' : List A} {h1 : Heap} (he : escL base b cs h = some (cs', h1)) : cs'.length = cs.length := by
  unfold escL at he
  (repeat' split at he) <;> first | (exact (frzL_stor he).2) | (injection he with he; injection he with e1 e2; subst e1; rfl)

theorem storeAt_ok (S : Sim bs w φ h) {base : Nat} (hbs : ∀ B, B ∈ bs → B ≤ base) {t : TypeId} {ti : TI} (ht : tab P t = some ti) {p v : A} {u x : Value}
    (hp : Rep w φ h h.length p u) (hv : Rep w φ h h.length v x) (hs : storeAt base ti.size h p v = some h') :
    ∃ w' φ', (Instr.storeAt t u x).run P w = .ok () w' ∧ Tr w φ h w' φ' h' ∧ Sim bs w' φ' h' := by
  obtain ⟨i, d, hi, hd, rfl⟩ := tab_inv ht
  unfold storeAt at hs
  split at hs
  case isFalse => exact absurd hs (by simp)
  case isTrue hlen =>
  have hlen' : v.cells.length = i.size := hlen
  have hnu : isUndef v = false := by
    cases v <;> first | rfl | skip
    exfalso
    revert hs
    cases p <;> simp only [reduceCtorEq, false_implies]
    · rename_i b j
      simp only [A.cells, escL, List.all_cons, List.all_nil, low1, Bool.and_true, if_true, ite_self]
      split <;> simp [stor1]
    · simp [A.cells, frzL, frz1]
  have hcl := cells_toList hnu hv
  have hlv : x.cells.toList.length = i.size := by rw [← hcl.length_eq]; exact hlen'
  have hsz : x.cells.size = i.size := by simpa using hlv
  have hrun : ∀ (a : Addr), u = .pointer (some a) → (Instr.storeAt t u x).run P w = (storeCells a x.cells.toList).run P w := by
    intro a ha
    subst ha
    simp [Instr.storeAt, Instr.sureAddr, storeVar, sizeOf_run hi, hsz]
  cases hp with
  | ptr _ b j k hb hvar hk =>
    simp only at hs
    cases he : escL base b v.cells h with
    | none => simp [he] at hs
    | some q =>
      obtain ⟨cs', h1⟩ := q
      simp only [he] at hs
      obtain ⟨φ1, T1, S1, R1⟩ := escL_ok S hb he hcl hbs
      have hlen1 := escL_len he
      cases hx : h1[b]? with
      | none => simp [hx] at hs
      | some y =>
        cases y with
        | dead => simp [hx] at hs
        | vec => simp [hx] at hs
        | var cs =>
          simp only [hx] at hs
          split at hs
          case isFalse => exact absurd hs (by simp)
          case isTrue hc =>
          obtain ⟨hjl, hst⟩ := hc
          injection hs with hs; subst hs
          have hk1 : φ1 b = some k := by rw [(T1.var b _ hvar.choose_spec).2]; exact hk
          obtain ⟨k', et, fz, cells, a1, a2, a3, a4⟩ := S1.blk h1.length (.inl rfl) b _ (idx_lt hx) hx
          rw [hk1] at a1; injection a1 with a1; subst a1
          have hcs := a4.length_eq
          have hjl' : j + i.size ≤ cs.length := hjl
          have hst' := stor_vals hst (R1 h1.length (.inl rfl) (idx_lt hx))
          have hrun2 := storeCells_ok (P := P) k x.cells.toList j 0 w cells et fz a2 a3 (by rw [hlv]; simp at hcs; omega) hst'
          have T2 := put_tr S1 hx hk1 (cells' := (setVals cells.toList (j + 0) x.cells.toList).toArray) a2 (by simp [setVals_length]) (x' := .var (setCells cs j cs')) (.inl ⟨_, _, rfl, rfl⟩)
          refine ⟨_, φ1, (hrun _ rfl).trans hrun2, T1.trans T2, ?_⟩
          refine put_sim S1 hx hk1 a2 (by simp [setVals_length]) (.inl ⟨_, _, rfl, rfl⟩) ?_
          intro B hB hlt
          obtain ⟨k2, et2, fz2, cells2, b1, b2, b3, b4⟩ := S1.blk B hB b _ hlt hx
          rw [hk1] at b1; injection b1 with b1; subst b1
          rw [a2] at b2; injection b2 with b2; injection b2 with b2 b2' b2''; subst b2
          have hBl : B ≤ h1.length := by rcases hB with rfl | hB; exact Nat.le_refl _; exact S1.bnd B hB
          refine ⟨k, et, fz, _, hk1, putB_same w _ (blk_lt a2), by simpa [setVals_length] using a3, ?_⟩
          have := RepL.setCells j b4 (R1 B hB hlt)
          simpa using this.tr T2 hBl (Nat.le_refl _)
  | vptr _ b ver r j p hb hp =>
    simp only at hs
    cases he : frzL v.cells h with
    | none => simp [he] at hs
    | some q =>
      obtain ⟨cs', h1⟩ := q
      simp only [he] at hs
      obtain ⟨φ1, T1, S1, R1⟩ := frzL_ok v.cells S (Nat.le_refl _) he hcl
      obtain ⟨hst, hlen1⟩ := frzL_stor he
      cases hx : h1[b]? with
      | none => simp [hx] at hs
      | some y =>
        cases y with
        | dead => simp [hx] at hs
        | var => simp [hx] at hs
        | vec ver' sz rows =>
          simp only [hx] at hs
          split at hs
          case isFalse => exact absurd hs (by simp)
          case isTrue e =>
          subst e
          cases hrw : rows[r]? with
          | none => simp [hrw] at hs
          | some row =>
            simp only [hrw] at hs
            split at hs
            case isFalse => exact absurd hs (by simp)
            case isTrue hjl =>
            have hjl' : j + i.size ≤ row.length := hjl
            injection hs with hs; subst hs
            -- the pointer still holds
            have hp1 : Rep w φ1 h1 h1.length (.vptr b ver r j) (.pointer (some p)) := (Rep.vptr _ b ver r j p hb hp).tr T1 (Nat.le_refl _) T1.len
            cases hp1 with
            | vptr _ _ _ _ _ _ hb1 hp1 =>
            obtain ⟨k, hk1, hpe⟩ := hp1.now _ _ hx
            subst hpe
            rcases S1.blk h1.length (.inl rfl) b _ (idx_lt hx) hx with ⟨a1, _⟩ | ⟨k', et, fz, cells, a1, a2, a3, a4, a5, a6⟩
            · rw [hk1] at a1; exact absurd a1 (by simp)
            rw [hk1] at a1; injection a1 with a1; subst a1
            have hr0 := R1 0
            have hst' := stor_vals hst hr0
            obtain ⟨r1, r2⟩ := a6 r row hrw
            have hrlt : r < rows.length := (List.getElem?_eq_some_iff.1 hrw).1
            have hrsz : r * sz + sz ≤ cells.size := by
              have : (r + 1) * sz ≤ rows.length * sz := Nat.mul_le_mul_right _ hrlt
              rw [Nat.succ_mul] at this; omega
            have hrun2 := storeCells_ok (P := P) k x.cells.toList (r * sz + j) 0 w cells et fz a2 a3 (by rw [hlv]; omega) hst'
            have hxx : (∃ c1 c2, (Blk.vec ver sz rows) = .var c1 ∧ (Blk.vec ver sz (rows.set r (setCells row j cs'))) = .var c2) ∨ ∃ v1 v2 s1 s2 rs1 rs2, (Blk.vec ver sz rows) = .vec v1 s1 rs1 ∧ (Blk.vec ver sz (rows.set r (setCells row j cs'))) = .vec v2 s2 rs2 ∧ v1 ≤ v2 ∧ (v1 = v2 → s1 = s2 ∧ rs1.length = rs2.length) :=
              .inr ⟨_, _, _, _, _, _, rfl, rfl, Nat.le_refl _, fun _ => ⟨rfl, by simp⟩⟩
            have hss : (setVals cells.toList (r * sz + j + 0) x.cells.toList).toArray.size = cells.size := by simp [setVals_length]
            have T2 := put_tr S1 hx hk1 (cells' := (setVals cells.toList (r * sz + j + 0) x.cells.toList).toArray) a2 hss hxx
            refine ⟨_, φ1, (hrun _ rfl).trans hrun2, T1.trans T2, ?_⟩
            refine put_sim S1 hx hk1 a2 hss hxx ?_
            intro B hB hlt
            refine .inr ⟨k, et, fz, _, hk1, putB_same w _ (blk_lt a2), by rw [hss]; exact a3, a4, by rw [hss]; simpa using a5, ?_⟩
            intro i' row' hi'
            have hget : ∀ m, (setVals cells.toList (r * sz + j + 0) x.cells.toList)[m]? = if r * sz + j ≤ m ∧ m < r * sz + j + i.size then x.cells.toList[m - (r * sz + j)]? else cells.toList[m]? := by
              intro m
              rw [setVals_get _ _ _ _ (by rw [hlv]; simp; omega), hlv]
              simp only [Nat.add_zero]
            rw [List.getElem?_set] at hi'
            split at hi'
            · rename_i e
              subst e
              injection hi' with hi'; subst hi'
              refine ⟨by rw [setCells_length]; exact r1, ?_⟩
              refine RepL.of_get ?_ ?_
              · rw [setCells_length, r1]
                simp [setVals_length]; omega
              · intro m a v' hm1 hm2
                have hmlt : m < sz := by
                  have := (List.getElem?_eq_some_iff.1 hm1).1
                  rw [setCells_length, r1] at this; exact this
                rw [setCells_get _ _ _ _ (by rw [hlen1, hlen']; exact hjl'), hlen1, hlen'] at hm1
                rw [List.getElem?_take, if_pos hmlt, List.getElem?_drop, List.toList_toArray, hget] at hm2
                by_cases hc : j ≤ m ∧ m < j + i.size
                · rw [if_pos hc] at hm1
                  rw [if_pos (by omega), show r * sz + m - (r * sz + j) = m - j by omega] at hm2
                  obtain ⟨v2, g1, g2⟩ := hr0.get _ _ hm1
                  rw [hm2] at g1; injection g1 with g1; subst g1
                  exact g2.tr T2 (Nat.zero_le _) (Nat.le_refl _)
                · rw [if_neg hc] at hm1
                  rw [if_neg (by omega)] at hm2
                  obtain ⟨v2, g1, g2⟩ := r2.get _ _ hm1
                  rw [List.getElem?_take, if_pos hmlt, List.getElem?_drop, hm2] at g1
                  injection g1 with g1; subst g1
                  exact g2.tr T2 (Nat.zero_le _) (Nat.le_refl _)
            · rename_i hne
              obtain ⟨q1, q2⟩ := a6 i' row' hi'
              refine ⟨q1, ?_⟩
              have : ((setVals cells.toList (r * sz + j + 0) x.cells.toList).toArray.toList.drop (i' * sz)).take sz = (cells.toList.drop (i' * sz)).take sz := by
                apply List.ext_getElem?
                intro m
                rw [List.getElem?_take, List.getElem?_take]
                split
                · rename_i hm
                  rw [List.getElem?_drop, List.getElem?_drop, List.toList_toArray, hget, if_neg]
                  intro hc
                  rcases Nat.lt_or_gt_of_ne hne with hlt' | hgt
                  · have : (r + 1) * sz ≤ i' * sz := Nat.mul_le_mul_right _ hlt'
                    rw [Nat.succ_mul] at this; omega
                  · have : (i' + 1) * sz ≤ r * sz := Nat.mul_le_mul_right _ hgt
                    rw [Nat.succ_mul] at this; omega
                · rfl
              rw [this]
              exact q2.tr T2 (Nat.zero_le _) (Nat.le_refl _)
  | _ => simp at hs
end
end Go.Proofs.Ytckjogpdnkocbaa.Den
namespace Go.Proofs.Ytckjogpdnkocbaa.Den

section
variable {P : Program} {w w' : World} {φ φ' : Phi} {h h' : Heap} {B B' : Nat} {bs : List Nat} {env : Env} {nt : Nat} {act : Act}

theorem zeroValue_run {t : TypeId} {i : TypeInfo} {z : Value} (hi : P.info? t = some i) (hz : i.zero = some z) : (zeroValue t).run P w = .ok z w := by
  simp [zeroValue, typeInfo, hi, hz]

theorem zero_inv {i : TypeInfo} {d : TypeDesc} {z : List Value} (hz : (tiOf i d).zero = some z) : ∃ v, i.zero = some v ∧ z = v.cells.toList := by
  simp only [tiOf, Option.map_eq_some_iff] at hz
  obtain ⟨v, h1, h2⟩ := hz
  exact ⟨v, h1, h2.symm⟩

theorem noFz00 (n : Nat) : NoFz (0, 0) n := fun _ _ hc => by omega

/-- A new variable. -/
theorem new_var_ok (S : Sim bs w φ h) {t : TypeId} {v : Value} {cs : List A} (hr : RepL w φ h h.length cs v.cells.toList) {m : Sem Value}
    (hm : m.run P w = .ok (.pointer (some ⟨w.heap.size, 0, none⟩)) (w.alloc (.cells v.cells t))) :
    Goes P m bs w φ h (.ptr h.length 0, h ++ [.var cs]) := by
  have T := alloc_tr S (.var cs) v.cells t (0, 0)
  refine ⟨_, _, _, hm, T, alloc_sim S _ _ _ _ ⟨w.heap.size, t, (0, 0), v.cells, upd_same _ _ _, heap_push_new _ _, noFz00 _, ?_⟩, ?_⟩
  · exact hr.tr T (Nat.le_refl _) (by omega)
  · exact .ptr _ _ _ _ (by simp) ⟨cs, by simp⟩ (upd_same _ _ _)

theorem box_run (t : TypeId) (v : Value) : (Instr.box t v).run P w = .ok (.pointer (some ⟨w.heap.size, 0, none⟩)) (w.alloc (.cells v.cells t)) := by
  simp [Instr.box, newVar, newRow, newObj, Sem.run]

theorem alloc_run {t : TypeId} {i : TypeInfo} {z : Value} (hi : P.info? t = some i) (hz : i.zero = some z) :
    (Instr.alloc t true (.tuple #[])).run P w = .ok (.pointer (some ⟨w.heap.size, 0, none⟩)) (w.alloc (.cells z.cells t)) := by
  simp [Instr.alloc, zeroValue_run hi hz, newVar, newRow, newObj, Sem.run]

theorem Goes.after {h0 : Heap} {r : A × Heap} {m : Sem Value} (T : Tr w φ h0 w φ h) (G : Goes P m bs w φ h r) : Goes P m bs w φ h0 r := by
  obtain ⟨v, w', φ', a, b, c, d⟩ := G
  exact ⟨v, w', φ', a, T.trans b, c, d⟩

theorem alloc_ok (S : Sim bs w φ h) {t : TypeId} {ti : TI} (ht : tab P t = some ti) {z : List Value} (hz : ti.zero = some z) :
    Goes P (Instr.alloc t true (.tuple #[])) bs w φ h (.ptr (virtL z h).2.length 0, (virtL z h).2 ++ [.var (virtL z h).1]) := by
  obtain ⟨i, d, hi, hd, rfl⟩ := tab_inv ht
  obtain ⟨v, hv, rfl⟩ := zero_inv hz
  obtain ⟨T, S1, R⟩ := virtL_ok v.cells.toList S
  exact Goes.after T (new_var_ok S1 R (alloc_run hi hv))

theorem box_ok (S : Sim bs w φ h) {t : TypeId} {a : A} {v : Value} (ha : isUndef a = false) (hr : Rep w φ h h.length a v) :
    Goes P (Instr.box t v) bs w φ h (.ptr h.length 0, h ++ [.var a.cells]) :=
  new_var_ok S (cells_toList ha hr) (box_run t v)

theorem bytesLess_eq (a b : List UInt8) : Op.bytesLess (ByteArray.mk a.toArray).toList (ByteArray.mk b.toArray).toList = Op.bytesLess a b := by
  simp [ByteArray.toList_eq]
theorem bytes_beq (a b : List UInt8) : ((ByteArray.mk a.toArray).toList == (ByteArray.mk b.toArray).toList) = decide (a = b) := by
  simp only [ByteArray.toList_eq]
  exact Bool.eq_iff_iff.2 (by simp)

theorem binA_ok {op : BinOp} {t : TypeId} {a b c : A} (hc : binA op a b = some c) {x y : Value} (ha : Rep w φ h h.length a x) (hb : Rep w φ h h.length b y) :
    ∃ v, (binOp op t x y).run P w = .ok v w ∧ Rep w φ h h.length c v ∧ ∀ ox oy, eqGuard op t ox oy x y = pure () := by
  unfold binA at hc
  split at hc
  · rename_i k m k' n
    cases ha; cases hb
    have hg : ∀ ox oy, eqGuard op t ox oy (.int k m) (.int k' n) = pure () := fun ox oy => eqGuard_at_int op t ox oy _ k m
    split at hc
    · unfold binSh at hc
      simp only at hc
      split at hc
      · exact absurd hc (by simp)
      · rename_i hn
        injection hc with hc; subst hc
        exact ⟨_, by simp only [binOp, Op.shift, if_neg hn]; rfl, .int _ _ _, hg⟩
    · unfold binSh at hc
      simp only at hc
      split at hc
      · exact absurd hc (by simp)
      · rename_i hn
        injection hc with hc; subst hc
        exact ⟨_, by simp only [binOp, Op.shift, if_neg hn]; rfl, .int _ _ _, hg⟩
    · rename_i hshl hshr
      split at hc
      · rename_i hk
        subst hk
        unfold binI at hc
        have hbin : binOp op t (.int k m) (.int k n) = match op with
            | .add | .sub | .mul => Op.intArith op k m n
            | .quo | .rem => Op.intDiv op k m n
            | .and | .or | .xor | .andNot => Op.intBits op k m n
            | _ => Op.intCmp op m n := by
          cases op <;> first | exact absurd rfl hshl | exact absurd rfl hshr | simp [binOp]
        rw [hbin]
        cases op <;> simp only [reduceCtorEq] at hc
        all_goals first
          | (split at hc
             · exact absurd hc (by simp)
             · rename_i hn
               injection hc with hc; subst hc
               exact ⟨_, by simp only [Op.intDiv, if_neg hn]; rfl, .int _ _ _, hg⟩)
          | (injection hc with hc; subst hc; exact ⟨_, rfl, .int _ _ _, hg⟩)
          | (injection hc with hc; subst hc; exact ⟨_, rfl, .bool _ _, hg⟩)
      · exact absurd hc (by simp)
  · rename_i s u
    cases ha; cases hb
    have hg : ∀ ox oy, eqGuard op t ox oy (.string ⟨s.toArray⟩) (.string ⟨u.toArray⟩) = pure () := fun ox oy => eqGuard_at_string op t ox oy _ _
    have hbin : binOp op t (.string ⟨s.toArray⟩) (.string ⟨u.toArray⟩) = Op.stringOp op ⟨s.toArray⟩ ⟨u.toArray⟩ := by cases op <;> rfl
    rw [hbin]
    unfold binS at hc
    cases op <;> simp only [reduceCtorEq] at hc
    all_goals first
      | (split at hc
         · rename_i hl
           injection hc with hc; subst hc
           refine ⟨_, run_string_add_sum w _ _ hl, ?_, hg⟩
           have : (ByteArray.mk s.toArray ++ ByteArray.mk u.toArray) = ByteArray.mk (s ++ u).toArray := by
             apply ByteArray.ext; simp
           rw [this]; exact .str _ _
         · exact absurd hc (by simp))
      | (injection hc with hc; subst hc
         refine ⟨_, by simp only [Op.stringOp, Sem.run_pure, bytesLess_eq, bytes_beq], .bool _ _, hg⟩)
  · exact absurd hc (by simp)
end
end Go.Proofs.Ytckjogpdnkocbaa.Den
namespace Go.Proofs.Ytckjogpdnkocbaa.Den

section
variable {P : Program} {w w' : World} {φ φ' : Phi} {h h' : Heap} {B B' : Nat} {bs : List Nat} {env : Env} {nt : Nat} {act : Act}

theorem equalIn_bool (n : Nat) (t : TypeId) (a b : Bool) (ht : P.underlying t = some .bool) : (Op.equalIn (n + 1) t (.bool a) (.bool b)).run P w = .ok (a == b) w := by
  simp [Op.equalIn, run_underlying ht]
theorem equalIn_nilnil (n : Nat) (t : TypeId) {ms : Array (String × TypeId)} (ht : P.underlying t = some (.interface ms)) : (Op.equalIn (n + 1) t .nilIface .nilIface).run P w = .ok true w := by
  simp [Op.equalIn, run_underlying ht]
theorem equalIn_errnil (n : Nat) (t u : TypeId) (v : Value) {ms : Array (String × TypeId)} (ht : P.underlying t = some (.interface ms)) : (Op.equalIn (n + 1) t (.iface u v) .nilIface).run P w = .ok false w := by
  simp [Op.equalIn, run_underlying ht]
theorem equalIn_nilerr (n : Nat) (t u : TypeId) (v : Value) {ms : Array (String × TypeId)} (ht : P.underlying t = some (.interface ms)) : (Op.equalIn (n + 1) t .nilIface (.iface u v)).run P w = .ok false w := by
  simp [Op.equalIn, run_underlying ht]
theorem equal_bool (t : TypeId) (a b : Bool) (ht : P.underlying t = some .bool) : (Op.equal t (.bool a) (.bool b)).run P w = .ok (a == b) w := equalIn_bool 9999 t a b ht
theorem equal_nilnil (t : TypeId) {ms : Array (String × TypeId)} (ht : P.underlying t = some (.interface ms)) : (Op.equal t .nilIface .nilIface).run P w = .ok true w := equalIn_nilnil 9999 t ht
theorem equal_errnil (t u : TypeId) (v : Value) {ms : Array (String × TypeId)} (ht : P.underlying t = some (.interface ms)) : (Op.equal t (.iface u v) .nilIface).run P w = .ok false w := equalIn_errnil 9999 t u v ht
theorem equal_nilerr (t u : TypeId) (v : Value) {ms : Array (String × TypeId)} (ht : P.underlying t = some (.interface ms)) : (Op.equal t .nilIface (.iface u v)).run P w = .ok false w := equalIn_nilerr 9999 t u v ht

theorem isNilC_guard {op : BinOp} {t : TypeId} {x y : Operand} (hc : (isNilC x || isNilC y) = true) : eqGuard op t x y .nilIface .nilIface = pure () := by
  rw [Bool.or_eq_true] at hc
  rcases hc with h1 | h1
  · cases x <;> simp [isNilC] at h1
    exact eqGuard_nil_constL op t y _
  · cases y <;> simp [isNilC] at h1
    exact eqGuard_nil_constR op t x _

theorem eqA_ok {op : BinOp} {t : TypeId} {x y : Operand} {a b c : A} (hc : eqA P op t x y a b = some c) {u v : Value} (ha : Rep w φ h h.length a u) (hb : Rep w φ h h.length b v) :
    ∃ z, (do eqGuard op t x y u v; binOp op t u v : Sem Value).run P w = .ok z w ∧ Rep w φ h h.length c z := by
  unfold eqA at hc
  split at hc
  · split at hc
    · rename_i p q hu
      injection hc with hc; subst hc
      cases ha; cases hb
      exact ⟨_, by simp only [eqGuard_at_bool, binOp, Sem.run_bind, Sem.run_pure, Result.andThen, equal_bool _ _ _ hu] <;> rfl, .bool _ _⟩
    · rename_i ms hu
      split at hc
      · rename_i hn
        injection hc with hc; subst hc
        cases ha; cases hb
        exact ⟨_, by simp only [isNilC_guard hn, binOp, Sem.run_bind, Sem.run_pure, Result.andThen, equal_nilnil _ hu] <;> rfl, .bool _ _⟩
      · exact absurd hc (by simp)
    · rename_i ms hu
      injection hc with hc; subst hc
      cases ha; cases hb
      exact ⟨_, by simp only [eqGuard_at_iface, binOp, Sem.run_bind, Sem.run_pure, Result.andThen, equal_errnil _ _ _ hu] <;> rfl, .bool _ _⟩
    · rename_i ms hu
      injection hc with hc; subst hc
      cases ha; cases hb
      exact ⟨_, by simp only [eqGuard_nil_iface, binOp, Sem.run_bind, Sem.run_pure, Result.andThen, equal_nilerr _ _ _ hu] <;> rfl, .bool _ _⟩
    · exact absurd hc (by simp)
  · split at hc
    · rename_i p q hu
      injection hc with hc; subst hc
      cases ha; cases hb
      exact ⟨_, by simp only [eqGuard_at_bool, binOp, Sem.run_bind, Sem.run_pure, Result.andThen, equal_bool _ _ _ hu] <;> rfl, .bool _ _⟩
    · rename_i ms hu
      split at hc
      · rename_i hn
        injection hc with hc; subst hc
        cases ha; cases hb
        exact ⟨_, by simp only [isNilC_guard hn, binOp, Sem.run_bind, Sem.run_pure, Result.andThen, equal_nilnil _ hu] <;> rfl, .bool _ _⟩
      · exact absurd hc (by simp)
    · rename_i ms hu
      injection hc with hc; subst hc
      cases ha; cases hb
      exact ⟨_, by simp only [eqGuard_at_iface, binOp, Sem.run_bind, Sem.run_pure, Result.andThen, equal_errnil _ _ _ hu] <;> rfl, .bool _ _⟩
    · rename_i ms hu
      injection hc with hc; subst hc
      cases ha; cases hb
      exact ⟨_, by simp only [eqGuard_nil_iface, binOp, Sem.run_bind, Sem.run_pure, Result.andThen, equal_nilerr _ _ _ hu] <;> rfl, .bool _ _⟩
    · exact absurd hc (by simp)
  · exact absurd hc (by simp)

theorem unA_ok {op : UnOp} {a c : A} (hc : unA op a = some c) {u : Value} (ha : Rep w φ h h.length a u) : ∃ z, (Op.unary op u).run P w = .ok z w ∧ Rep w φ h h.length c z := by
  unfold unA at hc
  split at hc
  · injection hc with hc; subst hc; cases ha; exact ⟨_, rfl, .bool _ _⟩
  · injection hc with hc; subst hc; cases ha; exact ⟨_, rfl, .int _ _ _⟩
  · exact absurd hc (by simp)

theorem nilOk_ok {o : Oper} {x : Operand} (ho : o.op = .nilCheck x) {a : A} (hn : nilOk a = true) (hr : Rep w φ h h.length a (act.eval x)) :
    (execOp act.eval o).run P w = .ok (.value (act.eval x)) w := by
  unfold execOp
  rw [ho]
  simp only
  generalize act.eval x = v at hr
  cases hr <;> first | (simp [nilOk] at hn; done) | rfl

theorem fields_get {d : TypeDesc} {i : TypeInfo} {j : Nat} {o : Nat × TypeId} (hj : (tiOf i d).fields[j]? = some o) : ∃ fs f, d = .struct fs ∧ fs[j]? = some f ∧ o = (f.offset, f.type) := by
  unfold tiOf at hj
  cases d with
  | struct fs =>
    simp only [List.getElem?_map, Array.getElem?_toList, Option.map_eq_some_iff] at hj
    obtain ⟨f, h1, h2⟩ := hj
    exact ⟨fs, f, rfl, h1, h2.symm⟩
  | _ => simp at hj

theorem fldOff_inv {t : TypeId} {j : Nat} {o : Nat × TypeId} (hf : fldOff P t j = some o) : ∃ i fs f, P.info? t = some i ∧ P.underlying t = some (.struct fs) ∧ fs[j]? = some f ∧ o = (f.offset, f.type) := by
  unfold fldOff at hf
  cases ht : tab P t with
  | none => simp [ht] at hf
  | some ti =>
    obtain ⟨i, d, hi, hd, rfl⟩ := tab_inv ht
    rw [ht] at hf
    obtain ⟨fs, f, rfl, h2, h3⟩ := fields_get hf
    exact ⟨i, fs, f, hi, hd, h2, h3⟩

theorem fieldAddr_ok {t : TypeId} {j : Nat} {o : Nat × TypeId} (hf : fldOff P t j = some o) (hsz : (tab P o.2).any (fun ti => Nat.blt 0 ti.size) = true) {a c : A} (hc : fieldAddrA a o.1 = some c) {u : Value} (ha : Rep w φ h h.length a u) :
    ∃ z, (Instr.fieldAt t u j).run P w = .ok z w ∧ Rep w φ h h.length c z := by
  obtain ⟨i, fs, f, hi, hd, hfj, rfl⟩ := fldOff_inv hf
  have hne : ∃ fi, P.info? f.type = some fi ∧ fi.size ≠ 0 := by
    cases ht : tab P f.type with
    | none => simp [ht] at hsz
    | some tf =>
      obtain ⟨fi, fd, h1, h2, rfl⟩ := tab_inv ht
      refine ⟨fi, h1, ?_⟩
      rw [ht] at hsz
      have : Nat.blt 0 (tiOf fi fd).size = true := hsz
      simp [tiOf] at this
      omega
  obtain ⟨fi, hfi, hfs⟩ := hne
  have hrun : ∀ a : Addr, a.spot = none → (Instr.fieldAt t (.pointer (some a)) j).run P w = .ok (.pointer (some ⟨a.block, a.off + f.offset, none⟩)) w := by
    intro a ha
    obtain ⟨k, off, sp⟩ := a
    simp only at ha; subst ha
    simp [Instr.fieldAt, run_underlying hd, hfj, Instr.sureAddr, fieldPlace, Addr.add_lit, sizeOf_run hfi, hfs]
  unfold fieldAddrA at hc
  split at hc
  · injection hc with hc; subst hc
    cases ha with
    | ptr _ b j' k hb hv hk => exact ⟨_, hrun _ rfl, .ptr _ _ _ _ hb hv hk⟩
  · injection hc with hc; subst hc
    cases ha with
    | vptr _ b ver i' j' p hb hp =>
      exact ⟨_, hrun p hp.spot, .vptr _ _ _ _ _ _ hb ⟨rfl, hp.le, fun sz rows hh => by
        obtain ⟨k, hk, he⟩ := hp.now sz rows hh
        subst he
        exact ⟨k, hk, by simp [Nat.add_assoc]⟩⟩⟩
  · injection hc with hc; subst hc
    cases ha with
    | eptr _ _ _ b off hb hφ hr =>
      rename_i row2 j2
      have := Rep.eptr (w := w) (φ := φ) (h := h) h.length row2 (j2 + f.offset) b off hb hφ hr
      rw [← Nat.add_assoc] at this
      exact ⟨_, hrun _ rfl, this⟩
  · exact absurd hc (by simp)

theorem field_ok {t : TypeId} {j : Nat} {o : Nat × TypeId} (hf : fldOff P t j = some o) {ti : TI} (hti : tab P o.2 = some ti) {cs : List A} {c : A} (hc : loadA ti.agg ti.size cs o.1 = some c) {u : Value} (ha : Rep w φ h h.length (.agg cs) u) :
    ∃ z, (Instr.field t u j).run P w = .ok z w ∧ Rep w φ h h.length c z := by
  obtain ⟨i, fs, f, hi, hd, hfj, rfl⟩ := fldOff_inv hf
  obtain ⟨fi, fd, hfi, hfd, rfl⟩ := tab_inv hti
  cases ha with
  | agg _ _ vs hl =>
    unfold loadA at hc
    simp only [Instr.field, Sem.run_bind, run_underlying hd, Result.andThen, hfj, asAgg, Sem.run_pure, part, isAgg_run (i := fi) hfd]
    by_cases hag : (tiOf fi fd).agg = true
    · rw [if_pos hag] at hc
      split at hc
      · injection hc with hc; subst hc
        refine ⟨.agg (vs.toArray.extract f.offset (f.offset + fi.size)), ?_, ?_⟩
        · simp only [hag, if_true, Sem.run_bind, sizeOf_run hfi, Result.andThen, Sem.run_pure]
        · have := Rep.agg h.length _ _ ((hl.drop f.offset).take fi.size)
          have e : (List.take fi.size (List.drop f.offset vs)).toArray = vs.toArray.extract f.offset (f.offset + fi.size) := by
            apply Array.ext'
            simp [List.extract_eq_take_drop]
          rw [← e]; exact this
      · exact absurd hc (by simp)
    · rw [if_neg hag] at hc
      obtain ⟨v, hv, hr⟩ := hl.get _ _ hc
      have hag' : (tiOf fi fd).agg = false := by simpa using hag
      exact ⟨v, by simp [hag', hv], hr⟩

theorem elem_inv {t e : TypeId} {ti : TI} (ht : tab P t = some ti) (he : ti.elem = some e) : P.underlying t = some (.slice e) := by
  obtain ⟨i, d, hi, hd, rfl⟩ := tab_inv ht
  rw [hd]
  unfold tiOf at he
  cases d <;> simp at he
  subst he; rfl

theorem extract_ok {vs : List A} {i : Nat} {c : A} (hc : vs[i]? = some c) {u : Value} (ha : Rep w φ h h.length (.tup vs) u) : ∃ z, (Instr.extract u i).run P w = .ok z w ∧ Rep w φ h h.length c z := by
  cases ha with
  | tup _ _ us hl =>
    obtain ⟨v, hv, hr⟩ := hl.get _ _ hc
    exact ⟨v, by simp [Instr.extract, hv], hr⟩

theorem str_index_ok {t : TypeId} (hs : P.underlying t = some .string) {s : List UInt8} {k : IntKind} {i : Int} (h0 : 0 ≤ i) {c : UInt8} (hc : s[i.toNat]? = some c) :
    (Instr.index t (.string ⟨s.toArray⟩) (.int k i)).run P w = .ok (.int .u8 c.toNat) w := by
  have hlt : i.toNat < s.length := (List.getElem?_eq_some_iff.1 hc).1
  have hget : (ByteArray.mk s.toArray)[i.toNat]? = some c := by
    rw [getElem?_pos _ _ (by simpa [ByteArray.size] using hlt)]
    have := (List.getElem?_eq_some_iff.1 hc).2
    simp only [Option.some.injEq]
    rw [← this]; rfl
  simp [Instr.index, asIntOf, run_underlying hs, if_pos h0, hget]
end
end Go.Proofs.Ytckjogpdnkocbaa.Den
namespace Go.Proofs.Ytckjogpdnkocbaa.Den

section
variable {P : Program} {w w' : World} {φ φ' : Phi} {h h' : Heap} {B B' : Nat} {bs : List Nat} {env : Env} {nt : Nat} {act : Act}

theorem elemSz_inv {t : TypeId} {n : Nat} (he : elemSz P t = some n) : ∃ e i, P.underlying t = some (.slice e) ∧ P.info? e = some i ∧ i.size = n := by
  unfold elemSz at he
  cases ht : tab P t with
  | none => simp [ht] at he
  | some ti =>
    cases hl : ti.elem with
    | none => simp [ht, hl] at he
    | some e =>
      cases hte : tab P e with
      | none => simp [ht, hl, hte] at he
      | some te =>
        simp only [ht, hl, hte] at he
        injection he with he
        obtain ⟨i, d, hi, hd, rfl⟩ := tab_inv hte
        exact ⟨e, i, elem_inv ht hl, hi, he⟩

theorem isStr_inv {t : TypeId} (hs : (tab P t).any TI.isStr = true) : P.underlying t = some .string := by
  cases ht : tab P t with
  | none => simp [ht] at hs
  | some ti =>
    obtain ⟨i, d, hi, hd, rfl⟩ := tab_inv ht
    rw [ht] at hs
    have : (tiOf i d).isStr = true := hs
    rw [hd]
    cases d <;> simp [tiOf] at this <;> rfl

theorem RepRows.get : ∀ {rows : List (List A)} {b sz off i : Nat} {row : List A}, RepRows w φ h b sz off rows → rows[i]? = some row → RepCells w φ h b (off + i * sz) row ∧ row.length = sz
  | [], _, _, _, _, _, _, hi => by simp at hi
  | r :: rs, b, sz, off, i, row, hr, hi => by
    cases hr with
    | cons _ _ _ _ _ hl hc hr =>
      cases i with
      | zero => simp at hi; subst hi; simpa using ⟨hc, hl⟩
      | succ i =>
        have := RepRows.get hr (by simpa using hi)
        rwa [show off + sz + i * sz = off + (i + 1) * sz by rw [Nat.succ_mul]; omega] at this

theorem RepRows.drop : ∀ {rows : List (List A)} {b sz off : Nat} (i : Nat), RepRows w φ h b sz off rows → i ≤ rows.length → RepRows w φ h b sz (off + i * sz) (rows.drop i)
  | _, _, _, _, 0, hr, _ => by simpa using hr
  | [], _, _, _, _ + 1, _, hi => by simp at hi
  | r :: rs, b, sz, off, i + 1, hr, hi => by
    cases hr with
    | cons _ _ _ _ _ hl hc hr =>
      have := RepRows.drop i hr (by simpa using hi)
      rwa [show off + sz + i * sz = off + (i + 1) * sz by rw [Nat.succ_mul]; omega] at this

theorem RepRows.take : ∀ {rows : List (List A)} {b sz off : Nat} (i : Nat), RepRows w φ h b sz off rows → RepRows w φ h b sz off (rows.take i)
  | _, _, _, _, 0, _ => by simpa using RepRows.nil _ _ _
  | [], _, _, _, _ + 1, _ => by simpa using RepRows.nil _ _ _
  | r :: rs, b, sz, off, i + 1, hr => by
    cases hr with
    | cons _ _ _ _ _ hl hc hr => exact .cons _ _ _ _ _ hl hc (RepRows.take i hr)

theorem indexA_ok {t : TypeId} {n : Nat} (he : elemSz P t = some n) {a c : A} {k : IntKind} {i : Int} (hc : indexA n h a i = some c) {u : Value} (ha : Rep w φ h h.length a u) :
    ∃ z, (Instr.indexAt t u (.int k i)).run P w = .ok z w ∧ Rep w φ h h.length c z := by
  obtain ⟨e, ti, hu, hi, rfl⟩ := elemSz_inv he
  have hrun : ∀ (ad : Addr) (len cap : Nat), 0 ≤ i → i < len → (Instr.indexAt t (.slice (some ad) len cap) (.int k i)).run P w = .ok (.pointer (some (ad.add (i.toNat * ti.size)))) w := by
    intro ad len cap h0 h1
    simp [Instr.indexAt, asIntOf, run_underlying hu, h0, h1, sizeOf_run hi]
  unfold indexA at hc
  split at hc
  · rename_i rows
    split at hc
    case isFalse => exact absurd hc (by simp)
    case isTrue h0 =>
    cases hr : rows[i.toNat]? with
    | none => simp [hr] at hc
    | some row =>
      simp only [hr] at hc
      split at hc
      case isFalse => exact absurd hc (by simp)
      case isTrue hl =>
      injection hc with hc; subst hc
      have hlt := (List.getElem?_eq_some_iff.1 hr).1
      cases ha with
      | sl0 => simp at hr
      | sl1 _ row0 rows0 b off sz c hcap hb hφ hrows =>
        obtain ⟨h1, h2⟩ := hrows.get hr
        have hsz : sz = ti.size := h2.symm.trans hl
        subst hsz
        simp only [List.length_cons] at hlt
        refine ⟨_, hrun _ _ _ h0 (by omega), ?_⟩
        rw [Addr.add_lit]
        simpa using Rep.eptr (w := w) (φ := φ) (h := h) h.length row 0 b (off + i.toNat * ti.size) hb hφ h1
  · rename_i b ver off m
    cases hx : h[b]? with
    | none => simp [hx] at hc
    | some x =>
      cases x with
      | dead => simp [hx] at hc
      | var => simp [hx] at hc
      | vec ver' sz rows =>
        simp only [hx] at hc
        split at hc
        case isFalse => exact absurd hc (by simp)
        case isTrue hcond =>
        obtain ⟨e1, h0, h1, e2⟩ := hcond
        subst e1; subst e2
        injection hc with hc; subst hc
        cases ha with
        | own _ _ _ _ _ ao c hb hn ho =>
          obtain ⟨g1, g2, g3, g4⟩ := ho.now _ _ hx
          cases hk : φ b with
          | none => have := g3 hk; omega
          | some kk =>
            obtain ⟨g5, g6⟩ := g4 kk hk
            have hao : ao = some ⟨kk, off * ti.size, none⟩ := by rcases g5 with e | e; exact e; omega
            subst hao
            refine ⟨_, hrun _ _ _ h0 h1, ?_⟩
            rw [Addr.add_lit]
            refine .vptr _ _ _ _ _ _ hb ⟨rfl, ho.le, fun sz2 rows2 hh => ?_⟩
            rw [hx] at hh; injection hh with hh; injection hh with _ e3 e4; subst e3
            exact ⟨kk, hk, by simp [Nat.add_mul]⟩
  · exact absurd hc (by simp)

/-- What bounds come to. -/
theorem bndA_ok (R : RelE w φ h nt env act) {x : Option Operand} {r : Option Int} (hb : bndA env x = some r) : (x = none ∧ r = none) ∨ ∃ o k n, x = some o ∧ r = some n ∧ act.eval o = .int k n := by
  unfold bndA at hb
  cases x with
  | none => injection hb with hb; exact .inl ⟨rfl, hb.symm⟩
  | some o =>
    simp only [Option.map_eq_some_iff] at hb
    obtain ⟨n, h1, h2⟩ := hb
    have hr := R.ev o
    revert h1
    cases he : ev env o <;> simp only [intA, reduceCtorEq, false_implies]
    rename_i k m
    intro h1
    injection h1 with h1; subst h1
    rw [he] at hr
    generalize hv : act.eval o = v at hr
    cases hr
    exact .inr ⟨o, k, m, rfl, h2.symm, hv⟩

/-- The bounds of a slice expression. -/
theorem sliceBounds_ok (R : RelE w φ h nt env act) {lo hi mx : Option Operand} {l r m : Option Int} (h1 : bndA env lo = some l) (h2 : bndA env hi = some r) (h3 : bndA env mx = some m) (isSl : Bool) (len cap : Nat)
    (hr0 : 0 ≤ l.getD 0) (hlr : l.getD 0 ≤ r.getD len) (hrc : r.getD len ≤ cap) (hm : ∀ k, m = some k → r.getD len ≤ k ∧ k ≤ cap) (hmr : m ≠ none → r ≠ none) :
    (Instr.sliceBounds isSl len cap (lo.map act.eval) (hi.map act.eval) (mx.map act.eval)).run P w = .ok ((l.getD 0).toNat, (r.getD len).toNat, (m.getD cap).toNat) w := by
  have hb : ∀ (k : IntKind) (n : Int) (y : Nat) (code : BoundsCode), 0 ≤ n → n ≤ y → (Instr.sliceBound (.int k n) y code).run P w = .ok n.toNat w := by
    intro k n y code a b
    simp [Instr.sliceBound, asIntOf, a, b]
  rcases bndA_ok R h1 with ⟨rfl, rfl⟩ | ⟨o1, k1, n1, rfl, rfl, e1⟩ <;> rcases bndA_ok R h2 with ⟨rfl, rfl⟩ | ⟨o2, k2, n2, rfl, rfl, e2⟩ <;> rcases bndA_ok R h3 with ⟨rfl, rfl⟩ | ⟨o3, k3, n3, rfl, rfl, e3⟩ <;>
    simp only [Option.getD_none, Option.getD_some] at hr0 hlr hrc hm <;>
    first
    | exact absurd rfl (hmr (Option.some_ne_none _))
    | skip
  · simp [Instr.sliceBounds]
  · simp only [Instr.sliceBounds, Option.map_none, Option.map_some, Sem.run_bind, Sem.run_pure, Result.andThen, e2, Option.getD_none, Option.getD_some]
    rw [hb _ _ _ _ (by omega) (by omega)]; rfl
  · obtain ⟨q1, q2⟩ := hm n3 rfl
    simp only [Instr.sliceBounds, Option.map_none, Option.map_some, Sem.run_bind, Sem.run_pure, Result.andThen, e2, e3, Option.getD_none, Option.getD_some]
    rw [hb _ _ _ _ (by omega) (by omega)]
    simp only
    rw [hb _ _ _ _ (by omega) (by omega)]; rfl
  · simp only [Instr.sliceBounds, Option.map_none, Option.map_some, Sem.run_bind, Sem.run_pure, Result.andThen, e1, Option.getD_none, Option.getD_some]
    rw [hb _ _ _ _ (by omega) (by omega)]; rfl
  · simp only [Instr.sliceBounds, Option.map_none, Option.map_some, Sem.run_bind, Sem.run_pure, Result.andThen, e1, e2, Option.getD_none, Option.getD_some]
    rw [hb _ _ _ _ (by omega) (by omega)]
    simp only
    rw [hb _ _ _ _ (by omega) (by omega)]; rfl
  · obtain ⟨q1, q2⟩ := hm n3 rfl
    simp only [Instr.sliceBounds, Option.map_some, Sem.run_bind, Sem.run_pure, Result.andThen, e1, e2, e3, Option.getD_some]
    rw [hb _ _ _ _ (by omega) (by omega)]
    simp only
    rw [hb _ _ _ _ (by omega) (by omega)]
    simp only
    rw [hb _ _ _ _ (by omega) (by omega)]
end
end Go.Proofs.Ytckjogpdnkocbaa.Den
namespace Go.Proofs.Ytckjogpdnkocbaa.Den

section
variable {P : Program} {w w' : World} {φ φ' : Phi} {h h' : Heap} {B B' : Nat} {bs : List Nat} {env : Env} {nt : Nat} {act : Act}

theorem szOk_all {n : Nat} : ∀ {rows : List (List A)}, szOk n rows = true → ∀ r, r ∈ rows → r.length = n
  | [], _, _, hr => by simp at hr
  | x :: xs, hs, r, hr => by
    simp only [szOk, List.all_cons, Bool.and_eq_true] at hs
    rcases List.mem_cons.1 hr with e | hr
    · subst e; simpa using hs.1.1
    · exact szOk_all (rows := xs) (by simp only [szOk, Bool.and_eq_true]; exact hs.2) r hr

theorem sliceA_ok (R : RelE w φ h nt env act) (S : Sim bs w φ h) {t : TypeId} {a c : A} {lo hi mx : Option Operand} {l r m : Option Int} (h1 : bndA env lo = some l) (h2 : bndA env hi = some r) (h3 : bndA env mx = some m)
    (hc : sliceA ((tab P t).any TI.isStr) (elemSz P t) h a l r m = some c) {u : Value} (ha : Rep w φ h h.length a u) :
    ∃ z, (Instr.sliceAt t u (lo.map act.eval) (hi.map act.eval) (mx.map act.eval)).run P w = .ok z w ∧ Rep w φ h h.length c z := by
  have hmx : ∀ {k : Option Int}, m = none → k = m.map id → mx = none := by
    intro k e _
    rcases bndA_ok R h3 with ⟨e1, _⟩ | ⟨o, _, n, _, e2, _⟩
    · exact e1
    · rw [e] at e2; exact absurd e2 (by simp)
  unfold sliceA at hc
  split at hc
  · rename_i s
    simp only at hc
    split at hc
    case isFalse => exact absurd hc (by simp)
    case isTrue hcond =>
    obtain ⟨g0, g1, g2, g3, g4⟩ := hcond
    injection hc with hc; subst hc
    have hu := isStr_inv g4
    have hmn : mx = none := hmx (k := m) g3 (by simp)
    subst hmn
    cases ha
    have hsz : (ByteArray.mk s.toArray).size = s.length := by simp [ByteArray.size]
    have hb := sliceBounds_ok (P := P) R h1 h2 (show bndA env none = some none from rfl) false s.length s.length g0 g1 g2 (by simp) (by simp)
    refine ⟨.string ((ByteArray.mk s.toArray).extract (l.getD 0).toNat (r.getD s.length).toNat), ?_, ?_⟩
    · simp only [Instr.sliceAt, Sem.run_bind, run_underlying hu, Result.andThen, Instr.slice, Option.map_none, Option.isSome_none, hsz]
      simp only [Option.map_none] at hb
      simp [hb]
    · have : ((ByteArray.mk s.toArray).extract (l.getD 0).toNat (r.getD s.length).toNat) = ByteArray.mk (((s.drop (l.getD 0).toNat).take ((r.getD s.length).toNat - (l.getD 0).toNat)).toArray) := by
        apply ByteArray.ext
        apply Array.ext'
        simp [List.extract_eq_take_drop]
      rw [this]; exact .str _ _
  · rename_i s
    simp only at hc
    split at hc
    case isFalse => exact absurd hc (by simp)
    case isTrue hcond =>
    obtain ⟨g0, g1, g2, g3, g4⟩ := hcond
    injection hc with hc; subst hc
    have hmn : mx = none := hmx (k := m) g3 (by simp)
    subst hmn
    cases hes : elemSz P t with
    | none => simp [hes] at g4
    | some size =>
    rw [hes] at g4
    have g4 : szOk size s = true := g4
    obtain ⟨e, ti, hu, hi', rfl⟩ := elemSz_inv hes
    have hrun : ∀ (ao : Option Addr) (cap : Nat), s.length ≤ cap → (Instr.sliceAt t (.slice ao s.length cap) (lo.map act.eval) (hi.map act.eval) none).run P w =
        .ok (.slice (if cap = (l.getD 0).toNat then ao else ao.map (·.add ((l.getD 0).toNat * ti.size))) ((r.getD s.length).toNat - (l.getD 0).toNat) (cap - (l.getD 0).toNat)) w := by
      intro ao cap hcap
      have hb := sliceBounds_ok (P := P) R h1 h2 (show bndA env none = some none from rfl) true s.length cap g0 g1 (by omega) (by simp) (by simp)
      simp only [Option.map_none, Option.getD_none] at hb
      simp only [Instr.sliceAt, Sem.run_bind, run_underlying hu, Result.andThen, Instr.slice, hb, sizeOf_run hi', Sem.run_pure]
      simp
    generalize hL : (l.getD 0).toNat = L at hrun
    generalize hN : (r.getD s.length).toNat - L = N at hrun
    have hLN : L + N ≤ s.length := by omega
    cases ha with
    | sl0 _ ao cap =>
      refine ⟨_, hrun ao cap (Nat.zero_le _), ?_⟩
      have : N = 0 := by simp at hLN; omega
      subst this
      simpa using Rep.sl0 (w := w) (φ := φ) (h := h) h.length _ _
    | sl1 _ row0 rows0 b off sz cap hcap hb hφ hrows =>
      refine ⟨_, hrun (some ⟨b, off, none⟩) cap (by simpa using hcap), ?_⟩
      cases N with
      | zero => simpa using Rep.sl0 (w := w) (φ := φ) (h := h) h.length _ _
      | succ N =>
        have hlt : L < (row0 :: rows0).length := by omega
        have hd := (hrows.drop L (by omega)).take (N + 1)
        have hsz : sz = ti.size := by
          have := (hrows.get (i := 0) (row := row0) rfl).2
          rw [← this]; exact szOk_all g4 row0 (by simp)
        subst hsz
        rw [List.drop_eq_getElem_cons hlt, List.take_succ_cons] at hd ⊢
        have hcap' : (row0 :: rows0).length ≤ cap := by simpa using hcap
        rw [if_neg (by omega), Option.map_some, Addr.add_lit]
        have hl : (((row0 :: rows0).drop (L + 1)).take N).length = N := by simp at hLN ⊢; omega
        have := Rep.sl1 (w := w) (φ := φ) (h := h) h.length _ (((row0 :: rows0).drop (L + 1)).take N) b (off + L * ti.size) ti.size (cap - L) (by rw [hl]; omega) hb hφ hd
        rwa [hl] at this
  · rename_i b ver off n
    cases hx : h[b]? with
    | none => simp [hx] at hc
    | some x =>
      cases x with
      | dead => simp [hx] at hc
      | var => simp [hx] at hc
      | vec ver' sz rows =>
        simp only [hx] at hc
        split at hc
        case isFalse => exact absurd hc (by simp)
        case isTrue hcond =>
        obtain ⟨e1, gsz, g0, g1, g2, g3, g4⟩ := hcond
        subst e1
        injection hc with hc; subst hc
        cases ha with
        | own _ _ _ _ _ ao cap hb hn ho =>
          obtain ⟨q1, q2, q3, q4⟩ := ho.now _ _ hx
          have hes : ∃ size, elemSz P t = some size ∧ (size = sz ∨ sz = 0) := by
            rcases gsz with e | ⟨e1, e2⟩
            · exact ⟨sz, e, .inl rfl⟩
            · cases hh : elemSz P t with
              | none => simp [hh] at e2
              | some s => exact ⟨s, rfl, .inr e1⟩
          obtain ⟨size, hes, hss⟩ := hes
          obtain ⟨e, ti, hu, hi', rfl⟩ := elemSz_inv hes
          have hmcap : ∀ k, m = some k → r.getD n ≤ k ∧ k ≤ cap := by
            intro k hk
            obtain ⟨p1, p2⟩ := g3 k hk
            exact ⟨p1, by omega⟩
          have hrc : r.getD n ≤ cap := by
            omega
          have hbd := sliceBounds_ok (P := P) R h1 h2 h3 true n cap g0 g1 hrc hmcap (by
            intro hm hr
            cases m with
            | none => exact hm rfl
            | some k => have := g4 rfl; rw [hr] at this; exact absurd this (by simp))
          generalize hL : (l.getD 0).toNat = L at hbd
          generalize hN : (r.getD n).toNat = N at hbd
          generalize hM : (m.getD cap).toNat = M at hbd
          have hMc : M ≤ cap := by
            cases m with
            | none => simp at hM; omega
            | some k => have := (hmcap k rfl).2; simp at hM; omega
          have hNM : N ≤ M := by
            cases m with
            | none => simp at hM; omega
            | some k => have := (hmcap k rfl).1; simp at hM; omega
          have hLN : L ≤ N := by omega
          refine ⟨.slice (if M = L then ao else ao.map (·.add (L * ti.size))) (N - L) (M - L), ?_, ?_⟩
          · simp only [Instr.sliceAt, Sem.run_bind, run_underlying hu, Result.andThen, Instr.slice, hbd, sizeOf_run hi', Sem.run_pure]
          · split
            case isFalse => exact .undef _ _
            rename_i hall
            have hMr : rows.length ≤ off + M := by
              cases m with
              | none => simp at hM; omega
              | some k => simp at hall hM; omega
            refine .own _ _ _ _ _ _ _ hb (by omega) ⟨ho.le, fun sz2 rows2 hh => ?_⟩
            rw [hx] at hh; injection hh with hh; injection hh with _ e3 e4; subst e3; subst e4
            refine ⟨by omega, by omega, fun hk => by have := q3 hk; omega, fun k hk => ?_⟩
            obtain ⟨p1, p2⟩ := q4 k hk
            have hsz0 : ti.size = sz := by
              rcases hss with e | e
              · exact e
              · exfalso
                rcases S.blk h.length (.inl rfl) b _ (idx_lt hx) hx with ⟨a1, _⟩ | ⟨_, _, _, _, _, _, _, a4, _⟩
                · rw [hk] at a1; exact absurd a1 (by simp)
                · omega
            refine ⟨?_, fun mm hmm => ?_⟩
            · by_cases hML : M = L
              · exact .inr (by omega)
              · rcases p1 with e | e
                · left
                  rw [if_neg hML, e, Option.map_some, Addr.add_lit, hsz0, Nat.add_mul]
                · right; omega
            · have := p2 mm hmm
              refine Nat.le_trans (Nat.mul_le_mul_right _ ?_) this
              omega
  · exact absurd hc (by simp)
end
end Go.Proofs.Ytckjogpdnkocbaa.Den
namespace Go.Proofs.Ytckjogpdnkocbaa.Den

section
variable {P : Program} {w w' : World} {φ φ' : Phi} {h h' : Heap} {B B' : Nat} {bs : List Nat} {env : Env} {nt : Nat} {act : Act}

/-- How many and which cells are appended. -/
def Src (P : Program) (w : World) (u : TypeId) (size bytes : Nat) (zero : Value) (y : Value) (m : Nat) (news : List Value) : Prop :=
  (∃ d, P.underlying u = some d ∧ (∀ k, d ≠ .int k) ∧ (Builtin.lenOf y).run P w = .ok m w ∧ ∀ w2 : World, w2.heap = w.heap → (Builtin.firstCells size m y).run P w2 = .ok news.toArray w2) ∨
  (∃ k, P.underlying u = some (.int k) ∧ y = .int .i64 m ∧ m ≤ 9223372036854775807 ∧ m * bytes ≤ 281474976710656 ∧ 0 < size ∧ news.toArray = Builtin.zeroCells zero.cells m)

theorem run_step {α β : Type} {x : Sem α} {f : α → Sem β} {a : α} {w w' : World} (hx : x.run P w = .ok a w') : (x >>= f).run P w = (f a).run P w' := by
  rw [Sem.run_bind, hx]; rfl

theorem run_neg {α : Type} {c : Prop} [Decidable c] {x y : Sem α} (hc : ¬ c) : (if c then x else y).run P w = y.run P w := by rw [if_neg hc]
theorem run_pos {α : Type} {c : Prop} [Decidable c] {x y : Sem α} (hc : c) : (if c then x else y).run P w = x.run P w := by rw [if_pos hc]

def isIntD : TypeDesc → Bool
  | .int _ => true
  | _ => false

def newSem (d : TypeDesc) (e : TypeId) (i : TypeInfo) (y : Value) (n : Nat) : Sem (Array Value) :=
  if isIntD d = false then Builtin.firstCells i.size n y
  else if n * i.size = 0 then pure #[]
  else do pure (Builtin.zeroCells (← zeroValue e).cells n)

/-- append, when it is known how many are appended. -/
def restSem (d : TypeDesc) (e : TypeId) (i : TypeInfo) (y : Value) (base : Option Addr) (sLen sCap n : Nat) : Sem Value :=
  if sLen + n ≤ sCap then do
    let new ← newSem d e i y n
    if let some a := base then storeCells (a.add (sLen * i.size)) new.toList
    pure (.slice base (sLen + n) sCap)
  else do
    if ((sLen + n : Nat) : Int) > IntKind.i64.max ∧ (isIntD d = true ∨ (← typeInfo e).bytes = 0) then runtimePanic (.error "growslice: len out of range")
    if Builtin.nextslicecap (sLen + n) sCap * (← typeInfo e).bytes > 2 ^ 48 then (if isIntD d = true then runtimePanic (.error "growslice: len out of range") else do
      if !(← Builtin.mayShare i.size sLen n base y) then mark .noRoom
      unsupported (.resourceLimit "append: a slice or a string whose bytes no memory bears"))
    let newCap ← choose (.appendCap (sLen + n) sCap e)
    askRoom (newCap * (← typeInfo e).bytes)
    let old ← Builtin.firstCells i.size sLen (.slice base sLen sCap)
    let new ← newSem d e i y n
    let rest := Builtin.zeroCells (← zeroValue e).cells (newCap - (sLen + n))
    pure (.slice (some (← newRow e (old ++ new ++ rest))) (sLen + n) newCap)

/-- append behind its kinds: what is left to do. -/
theorem append_rest {t u e : TypeId} (ty : TypeId) {i : TypeInfo} {zero : Value} (ht : P.underlying t = some (.slice e)) (hi : P.info? e = some i) (hz : i.zero = some zero) {y : Value} {m : Nat} {news : List Value} (hs : Src P w u i.size i.bytes zero y m news) (base : Option Addr) (sLen sCap : Nat) :
    ∃ d, (Builtin.append_ #[t, u] ty #[.slice base sLen sCap, y]).run P w = (restSem d e i y base sLen sCap m).run P w ∧ ∀ w2 : World, w2.heap = w.heap → (newSem d e i y m).run P w2 = .ok news.toArray w2 := by
  rcases hs with ⟨d, hu, hd, hlen, hf⟩ | ⟨k, hu, rfl, hm1, hm2, hpos, hnews⟩
  · refine ⟨d, ?_, ?_⟩
    · unfold Builtin.append_
      refine (run_step (run_underlying ht w)).trans ?_
      refine (run_step (sizeOf_run hi)).trans ?_
      refine (run_step (run_underlying hu w)).trans ?_
      cases d <;> first | exact absurd rfl (hd _) | exact (run_step hlen).trans rfl
    · have hdi : isIntD d = false := by cases d <;> first | rfl | exact absurd rfl (hd _)
      exact fun w2 hw2 => by unfold newSem; rw [if_pos hdi]; exact hf w2 hw2
  · have hw : IntKind.i64.wrap (m : Int) = m := i64_in (by omega) (by omega)
    have h48 : ¬ ((m : Int) * (i.bytes : Int) > 2 ^ 48) := by
      have h1 := Int.ofNat_le.2 hm2
      rw [Int.natCast_mul] at h1
      intro h2
      exact absurd (Int.le_trans (Int.le_of_eq rfl) h1) (Int.not_le.2 h2)
    have hneg : ¬ ((m : Int) < 0) := by omega
    refine ⟨.int k, ?_, fun w2 _ => ?_⟩
    · unfold Builtin.append_
      refine (run_step (run_underlying ht w)).trans ?_
      refine (run_step (sizeOf_run hi)).trans ?_
      refine (run_step (run_underlying hu w)).trans ?_
      refine (run_step (a := true) (w' := w) rfl).trans ?_
      refine (run_step (a := (m : Int)) (w' := w) rfl).trans ?_
      refine (run_neg (c := IntKind.i64.wrap (m : Int) < 0) (by rw [hw]; exact hneg)).trans ?_
      refine (run_step (typeInfo_run hi)).trans ?_
      refine (run_neg (c := IntKind.i64.wrap (m : Int) * (i.bytes : Int) > 2 ^ 48) (by rw [hw]; exact h48)).trans ?_
      refine (run_step (a := m) (w' := w) ?_).trans ?_
      · rw [Sem.run_pure, hw]; rfl
      · rfl
    · unfold newSem
      simp only [isIntD, Bool.true_eq_false, if_false]
      split
      · rename_i h0
        have : m = 0 := by
          rcases Nat.mul_eq_zero.1 h0 with e | e
          · exact e
          · omega
        subst this
        rw [hnews]; simp [Builtin.zeroCells]
      · simp [zeroValue_run hi hz, hnews]

theorem append_place {t u e : TypeId} (ty : TypeId) {i : TypeInfo} {zero : Value} (ht : P.underlying t = some (.slice e)) (hi : P.info? e = some i) (hz : i.zero = some zero) {y : Value} {m : Nat} {news : List Value}
    (hs : Src P w u i.size i.bytes zero y m news) (base : Option Addr) (sLen sCap : Nat) (hroom : sLen + m ≤ sCap)
    (hst : ∀ a, base = some a → (storeCells (a.add (sLen * i.size)) news).run P w = .ok () w') (hn : base = none → w' = w) :
    (Builtin.append_ #[t, u] ty #[.slice base sLen sCap, y]).run P w = .ok (.slice base (sLen + m) sCap) w' := by
  have hfin : ∀ z : Value, ((do
        if let some a := base then storeCells (a.add (sLen * i.size)) news
        pure z) : Sem Value).run P w = .ok z w' := by
    intro z
    cases base with
    | none => rw [hn rfl]; rfl
    | some a => exact (run_step (hst a rfl)).trans rfl
  obtain ⟨d, hr, hnew⟩ := append_rest ty ht hi hz hs base sLen sCap
  rw [hr]
  unfold restSem
  rw [if_pos hroom]
  exact (run_step (hnew w rfl)).trans (hfin _)

theorem askRoom_run (n : Nat) : (askRoom n).run P w = .ok () w := by
  unfold askRoom
  split
  · rfl
  · rfl

theorem append_grow {t u e : TypeId} (ty : TypeId) {i : TypeInfo} {zero : Value} (ht : P.underlying t = some (.slice e)) (hi : P.info? e = some i) (hz : i.zero = some zero) {y : Value} {m : Nat} {news : List Value}
    (hs : Src P w u i.size i.bytes zero y m news) (base : Option Addr) (sLen sCap : Nat) (hroom : sCap < sLen + m) {olds : List Value}
    (hold : ∀ w2 : World, w2.heap = w.heap → (Builtin.firstCells i.size sLen (.slice base sLen sCap)).run P w2 = .ok olds.toArray w2) (hb : (sLen + m) * i.bytes ≤ 140737488355328) (hpos : 0 < i.bytes) :
    ∃ newCap, sLen + m ≤ newCap ∧ (Builtin.append_ #[t, u] ty #[.slice base sLen sCap, y]).run P w = .ok (.slice (some ⟨w.heap.size, 0, none⟩) (sLen + m) newCap)
      (w.drew.alloc (.cells (olds.toArray ++ news.toArray ++ Builtin.zeroCells zero.cells (newCap - (sLen + m))) e)) := by
  obtain ⟨d, hr, hnew⟩ := append_rest ty ht hi hz hs base sLen sCap
  refine ⟨(Question.appendCap (sLen + m) sCap e).cut (w.tape w.drawn (.appendCap (sLen + m) sCap e)), by simp [Question.cut], ?_⟩
  rw [hr]
  unfold restSem
  rw [if_neg (by omega)]
  refine (run_step (typeInfo_run hi)).trans ?_
  refine (run_neg (c := ((sLen + m : Nat) : Int) > IntKind.i64.max ∧ (isIntD d = true ∨ i.bytes = 0)) ?_).trans ?_
  · rintro ⟨h1, _⟩
    have h2 : sLen + m ≤ 140737488355328 := by
      have : (sLen + m) * 1 ≤ (sLen + m) * i.bytes := Nat.mul_le_mul_left _ hpos
      omega
    rw [IntKind.max_i64] at h1
    omega
  refine (run_step (typeInfo_run hi)).trans ?_
  refine (run_neg (c := Builtin.nextslicecap (sLen + m) sCap * i.bytes > 2 ^ 48) ?_).trans ?_
  · have := growslice_fits hroom hb
    exact Nat.not_lt.2 this
  refine (run_step (a := (Question.appendCap (sLen + m) sCap e).cut (w.tape w.drawn (.appendCap (sLen + m) sCap e))) (w' := w.drew) (by simp [choose, Sem.run, Question.forced])).trans ?_
  refine (run_step (typeInfo_run hi)).trans ?_
  refine (run_step (askRoom_run _)).trans ?_
  refine (run_step (hold w.drew rfl)).trans ?_
  refine (run_step (hnew w.drew rfl)).trans ?_
  refine (run_step (zeroValue_run hi hz)).trans ?_
  rfl
end
end Go.Proofs.Ytckjogpdnkocbaa.Den
namespace Go.Proofs.Ytckjogpdnkocbaa.Den

section
variable {P : Program} {w w' : World} {φ φ' : Phi} {h h' : Heap} {B B' : Nat} {bs : List Nat} {env : Env} {nt : Nat} {act : Act}

/-- Rows, and the cells of all of them. -/
def RowsL (w : World) (φ : Phi) (h : Heap) (sz : Nat) (rows : List (List A)) (vals : List Value) : Prop :=
  vals.length = rows.length * sz ∧ ∀ i row, rows[i]? = some row → row.length = sz ∧ RepL w φ h 0 row ((vals.drop (i * sz)).take sz)

theorem RowsL.tr (T : Tr w φ h w' φ' h') {sz : Nat} {rows : List (List A)} {vals : List Value} (hr : RowsL w φ h sz rows vals) : RowsL w' φ' h' sz rows vals :=
  ⟨hr.1, fun i row hi => ⟨(hr.2 i row hi).1, (hr.2 i row hi).2.tr T (Nat.zero_le _) (Nat.le_refl _)⟩⟩

theorem RowsL.append {sz : Nat} {r1 r2 : List (List A)} {v1 v2 : List Value} (h1 : RowsL w φ h sz r1 v1) (h2 : RowsL w φ h sz r2 v2) : RowsL w φ h sz (r1 ++ r2) (v1 ++ v2) := by
  refine ⟨by simp [h1.1, h2.1, Nat.add_mul], fun i row hi => ?_⟩
  by_cases hlt : i < r1.length
  · rw [List.getElem?_append_left hlt] at hi
    obtain ⟨a, b⟩ := h1.2 i row hi
    refine ⟨a, ?_⟩
    have : (i + 1) * sz ≤ r1.length * sz := Nat.mul_le_mul_right _ hlt
    rw [Nat.succ_mul] at this
    have h1l := h1.1
    rw [List.drop_append_of_le_length (by omega), List.take_append_of_le_length (by simp; omega)]
    exact b
  · rw [List.getElem?_append_right (by omega)] at hi
    obtain ⟨a, b⟩ := h2.2 _ row hi
    refine ⟨a, ?_⟩
    have e : i * sz = v1.length + (i - r1.length) * sz := by
      rw [h1.1, ← Nat.add_mul]; congr 1; omega
    rw [e, List.drop_append, List.drop_of_length_le (by omega), List.nil_append]
    simpa using b

theorem RowsL.take {sz : Nat} {rows : List (List A)} {vals : List Value} (n : Nat) (hr : RowsL w φ h sz rows vals) : RowsL w φ h sz (rows.take n) (vals.take (n * sz)) := by
  refine ⟨?_, fun i row hi => ?_⟩
  · rw [List.length_take, List.length_take, hr.1]
    rcases Nat.le_total n rows.length with hle | hle
    · rw [Nat.min_eq_left hle, Nat.min_eq_left (Nat.mul_le_mul_right _ hle)]
    · rw [Nat.min_eq_right hle, Nat.min_eq_right (Nat.mul_le_mul_right _ hle)]
  · rw [List.getElem?_take] at hi
    split at hi
    · rename_i hlt
      obtain ⟨a, b⟩ := hr.2 i row hi
      refine ⟨a, ?_⟩
      have h1 : (i + 1) * sz ≤ n * sz := Nat.mul_le_mul_right _ hlt
      rw [Nat.succ_mul] at h1
      rw [List.drop_take, List.take_take, Nat.min_eq_left (by omega)]
      exact b
    · exact absurd hi (by simp)

theorem RowsL.drop {sz : Nat} {rows : List (List A)} {vals : List Value} (n : Nat) (hr : RowsL w φ h sz rows vals) : RowsL w φ h sz (rows.drop n) (vals.drop (n * sz)) := by
  refine ⟨by simp [hr.1, Nat.sub_mul], fun i row hi => ?_⟩
  rw [List.getElem?_drop] at hi
  obtain ⟨a, b⟩ := hr.2 _ row hi
  refine ⟨a, ?_⟩
  rwa [List.drop_drop, ← Nat.add_mul]

theorem RowsL.nil (sz : Nat) : RowsL w φ h sz [] [] := ⟨by simp, fun i row hi => by simp at hi⟩

theorem RowsL.cons {sz : Nat} {r : List A} {rows : List (List A)} {v vals : List Value} (hl : r.length = sz) (hr : RepL w φ h 0 r v) (hrs : RowsL w φ h sz rows vals) : RowsL w φ h sz (r :: rows) (v ++ vals) := by
  have h1 : RowsL w φ h sz [r] v := by
    have hv := hr.length_eq
    refine ⟨by simp; omega, fun i row hi => ?_⟩
    cases i with
    | zero =>
      simp at hi; subst hi
      refine ⟨hl, ?_⟩
      rw [Nat.zero_mul, List.drop_zero, List.take_of_length_le (by omega)]
      exact hr
    | succ i => simp at hi
  exact h1.append hrs

/-- The cells of rows that are read. -/
theorem RepRows.vals : ∀ {rows : List (List A)} {b sz off : Nat}, RepRows w φ h b sz off rows → ∃ vals, RowsL w φ h sz rows vals ∧ ∀ (j : Nat) (v : Value), vals[j]? = some v → w.cell? ⟨b, off + j, none⟩ = some v
  | [], _, _, _, _ => ⟨[], RowsL.nil _, fun j v hj => by simp at hj⟩
  | r :: rs, b, sz, off, hr => by
    cases hr with
    | cons _ _ _ _ _ hl hc hr =>
      obtain ⟨vals, h1, h2⟩ := RepRows.vals hr
      -- a row's own cells, at bound 0
      have hrow : ∀ (row : List A) (o : Nat), RepCells w φ h b o row → ∃ vs, RepL w φ h 0 row vs ∧ ∀ (j : Nat) (v : Value), vs[j]? = some v → w.cell? ⟨b, o + j, none⟩ = some v := by
        intro row
        induction row with
        | nil => intro o _; exact ⟨[], .nil _, fun j v hj => by simp at hj⟩
        | cons a as ih =>
          intro o hc
          cases hc with
          | cons _ _ _ _ v hcell ha hr =>
            obtain ⟨vs, g1, g2⟩ := ih _ hr
            refine ⟨v :: vs, .cons _ _ _ _ _ ha g1, fun j u hj => ?_⟩
            cases j with
            | zero => simp at hj; subst hj; simpa using hcell
            | succ j => have := g2 j u (by simpa using hj); rwa [show o + (j + 1) = o + 1 + j by omega]
      obtain ⟨vs, g1, g2⟩ := hrow r off hc
      have hvl : vs.length = sz := by rw [← g1.length_eq]; exact hl
      refine ⟨vs ++ vals, RowsL.cons hl g1 h1, fun j v hj => ?_⟩
      by_cases hlt : j < vs.length
      · rw [List.getElem?_append_left hlt] at hj; exact g2 j v hj
      · rw [List.getElem?_append_right (by omega)] at hj
        have := h2 _ v hj
        rwa [show off + sz + (j - vs.length) = off + j by omega] at this

theorem vec_vals {sz : Nat} {rows : List (List A)} {cells : Array Value} (hle : rows.length * sz ≤ cells.size)
    (hr : ∀ i row, rows[i]? = some row → row.length = sz ∧ RepL w φ h 0 row ((cells.toList.drop (i * sz)).take sz)) : RowsL w φ h sz rows (cells.toList.take (rows.length * sz)) := by
  refine ⟨by simp; omega, fun i row hi => ?_⟩
  obtain ⟨a, c⟩ := hr i row hi
  refine ⟨a, ?_⟩
  have hlt := (List.getElem?_eq_some_iff.1 hi).1
  have h1 : (i + 1) * sz ≤ rows.length * sz := Nat.mul_le_mul_right _ hlt
  rw [Nat.succ_mul] at h1
  rw [List.drop_take, List.take_take, Nat.min_eq_left (by omega)]
  exact c

theorem firstCells_some (size n len cap : Nat) (a : Addr) {vals : List Value} (hl : vals.length = n * size) {w2 : World} (hc : ∀ (j : Nat) (v : Value), vals[j]? = some v → w2.cell? (a.add j) = some v) :
    (Builtin.firstCells size n (.slice (some a) len cap)).run P w2 = .ok vals.toArray w2 := by
  have := run_loadCells_list (P := P) w2 a vals hc
  rw [hl] at this
  exact this

theorem cell_heap {w2 : World} (hw : w2.heap = w.heap) (a : Addr) : w2.cell? a = w.cell? a := by simp only [World.cell?, hw]

/-- A slice of any kind, as a source. -/
theorem rows_src (S : Sim bs w φ h) {y : A} {v : Value} (hy : Rep w φ h h.length y v) {rows : List (List A)} (hrw : rowsOf h y = some rows) {size : Nat} (hsz : szOk size rows = true) (hpos : 0 < size) :
    ∃ vals, RowsL w φ h size rows vals ∧ (Builtin.lenOf v).run P w = .ok rows.length w ∧ ∀ w2 : World, w2.heap = w.heap → (Builtin.firstCells size rows.length v).run P w2 = .ok vals.toArray w2 := by
  unfold rowsOf at hrw
  split at hrw
  · injection hrw with hrw; subst hrw
    cases hy with
    | sl0 _ ao c =>
      refine ⟨[], RowsL.nil _, rfl, fun w2 _ => ?_⟩
      cases ao with
      | none => rfl
      | some a => exact firstCells_some size 0 0 c a (by simp) (fun j v hj => by simp at hj)
    | sl1 _ row rows b off sz c hc hb hφ hr =>
      have e : sz = size := by
        have := (hr.get (i := 0) (row := row) rfl).2
        rw [← this]; exact szOk_all hsz row (by simp)
      subst e
      obtain ⟨vals, h1, h2⟩ := hr.vals
      refine ⟨vals, h1, by simp [Builtin.lenOf], fun w2 hw => firstCells_some _ _ _ _ _ h1.1 fun j v hj => ?_⟩
      rw [Addr.add_lit, cell_heap hw]; exact h2 j v hj
  · rename_i b ver off n
    cases hx : h[b]? with
    | none => simp [hx] at hrw
    | some x =>
      cases x with
      | dead => simp [hx] at hrw
      | var => simp [hx] at hrw
      | vec ver' sz rws =>
        simp only [hx] at hrw
        split at hrw
        case isFalse => exact absurd hrw (by simp)
        case isTrue e =>
        subst e
        injection hrw with hrw; subst hrw
        cases hy with
        | own _ _ _ _ _ ao c hb hn ho =>
          obtain ⟨q1, q2, q3, q4⟩ := ho.now _ _ hx
          have hlen : ((rws.drop off).take n).length = n := by simp; omega
          cases n with
          | zero =>
            refine ⟨[], by rw [List.take_zero]; exact RowsL.nil _, by simp [Builtin.lenOf], fun w2 _ => ?_⟩
            rw [List.take_zero]
            cases ao with
            | none => rfl
            | some a => exact firstCells_some size 0 0 c a (by simp) (fun j v hj => by simp at hj)
          | succ n =>
            rcases S.blk h.length (.inl rfl) b _ (idx_lt hx) hx with ⟨a1, _⟩ | ⟨k, et, fz, cells, a1, a2, a3, a4, a5, a6⟩
            · have := q3 a1; omega
            · have e : sz = size := by
                have hlt : off < rws.length := by omega
                have h1 := (a6 off rws[off] (List.getElem?_eq_getElem hlt)).1
                rw [← h1]
                refine szOk_all hsz _ ?_
                rw [List.drop_eq_getElem_cons hlt, List.take_succ_cons]; simp
              subst e
              obtain ⟨g5, g6⟩ := q4 k a1
              have hao : ao = some ⟨k, off * sz, none⟩ := by rcases g5 with e | e; exact e; omega
              subst hao
              have hv := ((vec_vals a5 a6).drop off).take (n + 1)
              refine ⟨_, hv, by rw [hlen]; rfl, fun w2 hw => ?_⟩
              refine firstCells_some _ _ _ _ _ hv.1 fun j v hj => ?_
              rw [Addr.add_lit, cell_heap hw]
              rw [List.getElem?_take] at hj
              split at hj
              · rw [List.getElem?_drop, List.getElem?_take] at hj
                split at hj
                · simpa [World.cell?, a2] using hj
                · exact absurd hj (by simp)
              · exact absurd hj (by simp)
  · rename_i s
    injection hrw with hrw; subst hrw
    cases hy
    have hs1 : s ≠ [] → size = 1 := by
      intro hne
      cases s with
      | nil => exact absurd rfl hne
      | cons c s => have := szOk_all hsz [.int .u8 c.toNat] (by simp); simpa using this.symm
    have hrows : RowsL w φ h size (s.map fun c => [A.int .u8 c.toNat]) (s.map fun c => Value.int .u8 c.toNat) := by
      clear hsz
      induction s with
      | nil => exact RowsL.nil _
      | cons c s ih =>
        have e := hs1 (by simp)
        subst e
        exact RowsL.cons (v := [Value.int .u8 c.toNat]) rfl (.cons _ _ _ _ _ (.int _ _ _) (.nil _)) (ih fun _ => rfl)
    refine ⟨_, hrows, by simp [Builtin.lenOf, ByteArray.size], fun w2 _ => ?_⟩
    have e : ((ByteArray.mk s.toArray).extract 0 s.length).data = s.toArray := by
      apply Array.ext'
      simp [List.extract_eq_take_drop]
    simp only [Builtin.firstCells, List.length_map, e, Sem.run_pure]
    simp
  · exact absurd hrw (by simp)
end
end Go.Proofs.Ytckjogpdnkocbaa.Den
namespace Go.Proofs.Ytckjogpdnkocbaa.Den

section
variable {P : Program} {w w' : World} {φ φ' : Phi} {h h' : Heap} {B B' : Nat} {bs : List Nat} {env : Env} {nt : Nat} {act : Act}

theorem zeroCells_list (z : Array Value) (n : Nat) : (Builtin.zeroCells z n).toList = (List.replicate n z.toList).flatten := by
    unfold Builtin.zeroCells
    apply List.ext_getElem?
    intro j
    by_cases hz : z.size = 0
    · have : z = #[] := Array.eq_empty_of_size_eq_zero hz
      subst this
      simp
    · have hlen : ((List.replicate n z.toList).flatten).length = n * z.size := by simp
      by_cases hj : j < n * z.size
      · have hm : j % z.size < z.size := Nat.mod_lt _ (by omega)
        have hl : (List.map (fun i => z[i % z.size]!) (List.range (n * z.size)))[j]? = some z[j % z.size] := by
          rw [List.getElem?_map, List.getElem?_range hj]
          simp [hm]
        have hr : ∀ (n j : Nat), j < n * z.size → ((List.replicate n z.toList).flatten)[j]? = some (z[j % z.size]'(Nat.mod_lt _ (by omega))) := by
          intro n
          induction n with
          | zero => intro j hj; simp at hj
          | succ n ih =>
            intro j hj
            rw [List.replicate_succ, List.flatten_cons]
            by_cases h1 : j < z.size
            · rw [List.getElem?_append_left (by simpa using h1)]
              simp [Nat.mod_eq_of_lt h1, h1]
            · rw [List.getElem?_append_right (by simp; omega)]
              rw [Nat.succ_mul] at hj
              have := ih (j - z.size) (by omega)
              simp only [Array.length_toList]
              rw [this]
              congr 2
              exact (Nat.mod_eq_sub_mod (by omega)).symm
        rw [hr n j hj]
        simpa using hl
      · rw [List.getElem?_eq_none (by simp; omega), List.getElem?_eq_none (by rw [hlen]; omega)]

theorem zero_rowsL (z : Value) (sz : Nat) (hl : z.cells.toList.length = sz) : ∀ n, RowsL w φ h sz (List.replicate n (z.cells.toList.map absV)) (List.replicate n z.cells.toList).flatten
  | 0 => RowsL.nil _
  | n + 1 => by
    rw [List.replicate_succ, List.replicate_succ, List.flatten_cons]
    exact RowsL.cons (by simpa using hl) (repL_absV _) (zero_rowsL z sz hl n)

theorem zero_any {ti : TypeInfo} {d : TypeDesc} (hz : (tiOf ti d).zero.any (fun z => z.length == ti.size) = true) : ∃ v, ti.zero = some v ∧ v.cells.toList.length = ti.size ∧ (tiOf ti d).zero = some v.cells.toList := by
  cases hv : ti.zero with
  | none => simp [tiOf, hv] at hz
  | some v => exact ⟨v, rfl, by simpa [tiOf, hv] using hz, by simp [tiOf, hv]⟩

/-- The kinds of a type that append looks at. -/
theorem ik_inv {u : TypeId} {tu : TI} (hu : tab P u = some tu) : ∃ d, P.underlying u = some d ∧ ((tu.ik.isSome = true ∧ ∃ k, d = .int k) ∨ (tu.ik.isSome = false ∧ ∀ k, d ≠ .int k)) := by
  obtain ⟨i, d, hi, hd, rfl⟩ := tab_inv hu
  refine ⟨d, hd, ?_⟩
  cases d with
  | int k => exact .inl ⟨rfl, k, rfl⟩
  | _ => exact .inr ⟨rfl, fun k => by simp⟩

theorem src_ok (S : Sim bs w φ h) {u : TypeId} {tu : TI} (hu : tab P u = some tu) {i : TypeInfo} {d : TypeDesc} (hz : (tiOf i d).zero.any (fun z => z.length == i.size) = true) {y : A} {v : Value} (hy : Rep w φ h h.length y v)
    {new : List (List A)} (hs : srcRows (tiOf i d) tu.ik.isSome h y = some new) (hsz : szOk i.size new = true) (hpos : 0 < i.size) {zero : Value} (hzero : i.zero = some zero) :
    ∃ news, Src P w u i.size i.bytes zero v new.length news ∧ RowsL w φ h i.size new news := by
  obtain ⟨du, hdu, hk⟩ := ik_inv hu
  unfold srcRows at hs
  rcases hk with ⟨h1, k, rfl⟩ | ⟨h1, h2⟩
  · rw [if_pos h1] at hs
    split at hs
    · rename_i n
      split at hs
      case isFalse => exact absurd hs (by simp)
      case isTrue hn =>
      obtain ⟨n0, n1, n2⟩ := hn
      obtain ⟨zv, e1, e2, e3⟩ := zero_any hz
      rw [hzero] at e1; injection e1 with e1; subst e1
      simp only [zeroRows, e3, Option.map_some] at hs
      injection hs with hs; subst hs
      cases hy
      obtain ⟨m, rfl⟩ := Int.eq_ofNat_of_zero_le n0
      simp only [Int.toNat_natCast, List.length_replicate]
      refine ⟨(List.replicate m zero.cells.toList).flatten, .inr ⟨k, hdu, rfl, by omega, ?_, hpos, ?_⟩, zero_rowsL zero _ e2 m⟩
      · have h2 : (m : Int) * ((tiOf i d).bytes : Int) ≤ ((281474976710656 : Nat) : Int) := n2
        have h3 : ((m * i.bytes : Nat) : Int) ≤ ((281474976710656 : Nat) : Int) := by rw [Int.natCast_mul]; exact h2
        exact Int.ofNat_le.1 h3
      · apply Array.ext'
        rw [zeroCells_list]
    · exact absurd hs (by simp)
  · rw [if_neg (by simp [h1])] at hs
    obtain ⟨vals, g1, g2, g3⟩ := rows_src (P := P) S hy hs hsz hpos
    exact ⟨vals, .inl ⟨du, hdu, h2, g2, g3⟩, g1⟩

theorem rows_stor {sz : Nat} : ∀ {rows : List (List A)} {vals : List Value}, szOk sz rows = true → RowsL w φ h sz rows vals → ∀ v, v ∈ vals → (∀ cs, v ≠ .agg cs) ∧ ∀ cs, v ≠ .tuple cs := by
  intro rows vals hs hr v hv
  obtain ⟨j, hj, rfl⟩ := List.mem_iff_getElem.1 hv
  have hl := hr.1
  have hsz : 0 < sz := by
    rcases Nat.eq_zero_or_pos sz with e | e
    · rw [e, Nat.mul_zero] at hl; omega
    · exact e
  have hi : j / sz < rows.length := by
    rw [Nat.div_lt_iff_lt_mul hsz, ← hl]; exact hj
  obtain ⟨a, b⟩ := hr.2 _ _ (List.getElem?_eq_getElem hi)
  have hst : (rows[j / sz]).all stor1 = true := by
    have := List.all_eq_true.1 hs rows[j / sz] (List.getElem_mem _)
    simp only [Bool.and_eq_true] at this
    exact this.2
  refine stor_vals hst b _ ?_
  have hjm : j % sz < sz := Nat.mod_lt _ hsz
  have hdm := Nat.div_add_mod j sz
  rw [Nat.mul_comm] at hdm
  refine List.mem_iff_getElem?.2 ⟨j % sz, ?_⟩
  rw [List.getElem?_take, if_pos hjm, List.getElem?_drop, hdm, List.getElem?_eq_getElem hj]

theorem setVals_append : ∀ (news cells : List Value) (o : Nat), o + news.length ≤ cells.length → setVals cells o news = cells.take o ++ news ++ cells.drop (o + news.length) := by
  intro news cells o hl
  apply List.ext_getElem?
  intro m
  rw [setVals_get _ _ _ _ hl]
  by_cases h1 : m < o
  · rw [if_neg (by omega), List.append_assoc, List.getElem?_append_left (by simp; omega), List.getElem?_take, if_pos h1]
  · by_cases h2 : m < o + news.length
    · rw [if_pos (by omega), List.append_assoc, List.getElem?_append_right (by simp; omega), List.getElem?_append_left (by simp; omega)]
      congr 1; simp; omega
    · rw [if_neg (by omega), List.getElem?_append_right (by simp; omega), List.getElem?_drop]
      congr 1; simp; omega

theorem RowsL.vec {sz : Nat} {rows : List (List A)} {vals rest : List Value} (hr : RowsL w φ h sz rows vals) : ∀ i row, rows[i]? = some row → row.length = sz ∧ RepL w φ h 0 row (((vals ++ rest).drop (i * sz)).take sz) := by
  intro i row hi
  obtain ⟨a, b⟩ := hr.2 i row hi
  refine ⟨a, ?_⟩
  have hlt := (List.getElem?_eq_some_iff.1 hi).1
  have h1 : (i + 1) * sz ≤ rows.length * sz := Nat.mul_le_mul_right _ hlt
  rw [Nat.succ_mul] at h1
  have h2 := hr.1
  rw [List.drop_append_of_le_length (by omega), List.take_append_of_le_length (by simp; omega)]
  exact b
end
end Go.Proofs.Ytckjogpdnkocbaa.Den
namespace Go.Proofs.Ytckjogpdnkocbaa.Den

section
variable {P : Program} {w w' : World} {φ φ' : Phi} {h h' : Heap} {B B' : Nat} {bs : List Nat} {env : Env} {nt : Nat} {act : Act}

theorem drew_tr (T : Tr w φ h w' φ' h') : Tr w φ h w'.drew φ' h' :=
  ⟨T.os, T.tape, T.output, T.size, T.len, T.keep, T.var, T.vec, T.fr⟩
theorem Tr.drew0 (w : World) (φ : Phi) (h : Heap) : Tr w φ h w.drew φ h := drew_tr (Tr.refl w φ h)
theorem Sim.drew (S : Sim bs w φ h) : Sim bs w.drew φ h :=
  S.step (Tr.drew0 w φ h) S.inj S.dom fun _ _ hx => .inl ⟨hx, rfl, fun _ _ => rfl⟩

theorem appendA_ok (S : Sim bs w φ h) {t u : TypeId} {ti tu : TI} (ht : tab P t = some ti) (hu : tab P u = some tu) {e : TypeId} (he : ti.elem = some e) {te : TI} (hte : tab P e = some te) (ty : TypeId)
    {x y : A} {r : A × Heap} (hr : appendA te tu.ik.isSome h x y = some r) {xv yv : Value} (hx : Rep w φ h h.length x xv) (hy : Rep w φ h h.length y yv) :
    Goes P (Builtin.append_ #[t, u] ty #[xv, yv]) bs w φ h r := by
  obtain ⟨i, d, hi, hd, rfl⟩ := tab_inv hte
  have htu := elem_inv ht he
  unfold appendA at hr
  split at hr
  case h_2 => exact absurd hr (by simp)
  rename_i b ver off n
  cases hxb : h[b]? with
  | none => simp [hxb] at hr
  | some blk =>
  cases blk with
  | dead => simp [hxb] at hr
  | var => simp [hxb] at hr
  | vec ver' sz rows =>
  simp only [hxb] at hr
  cases hsrc : srcRows (tiOf i d) tu.ik.isSome h y with
  | none => simp [hsrc] at hr
  | some new =>
  simp only [hsrc] at hr
  split at hr
  case isFalse => exact absurd hr (by simp)
  case isTrue hcond =>
  obtain ⟨e1, gsz, gpos, gb, gz, gok⟩ := hcond
  subst e1
  have gpos : 0 < i.size := gpos
  have gsz : sz = i.size ∨ sz = 0 := gsz
  have gb : 0 < i.bytes := gb
  obtain ⟨zero, z1, z2, z3⟩ := zero_any gz
  obtain ⟨news, hS, hR⟩ := src_ok S hu gz hy hsrc gok gpos z1
  have gok' : szOk i.size new = true := gok
  have hst := rows_stor gok' hR
  have hnl : news.length = new.length * i.size := hR.1
  cases hx with
  | own _ _ _ _ _ ao c hb hn ho =>
  obtain ⟨q1, q2, q3, q4⟩ := ho.now _ _ hxb
  have hblk := S.blk h.length (.inl rfl) b _ (idx_lt hxb) hxb
  split at hr
  · -- nothing is appended
    rename_i h0
    injection hr with hr; subst hr
    have hn0 : news = [] := List.eq_nil_of_length_eq_zero (by rw [hnl, h0, Nat.zero_mul])
    subst hn0
    have hp := append_place (w' := w) ty htu hi z1 hS ao n c (by omega) (fun a _ => rfl) (fun _ => rfl)
    rw [h0] at hp
    exact Goes.same S hp (.own _ _ _ _ _ _ _ hb hn ho)
  · rename_i h0
    -- the row is no mere nil, or it is
    split at hr
    · -- it surely fits
      rename_i hfit
      injection hr with hr; subst hr
      have hcap : n + new.length ≤ c := by omega
      rcases hblk with ⟨a1, a2, _⟩ | ⟨k, et, fz, cells, a1, a2, a3, a4, a5, a6⟩
      · have hl0 : rows.length = 0 := by rw [a2]; rfl
        omega
      obtain ⟨g5, g6⟩ := q4 k a1
      have hao : ao = some ⟨k, off * sz, none⟩ := by rcases g5 with e | e; exact e; omega
      subst hao
      have hs : sz = i.size := by rcases gsz with e | e; exact e; omega
      subst hs
      have hle : (off + n + new.length) * i.size ≤ rows.length * i.size := Nat.mul_le_mul_right _ hfit
      have hmul : (off + n + new.length) * i.size = off * i.size + n * i.size + news.length := by rw [hnl, Nat.add_mul, Nat.add_mul]
      have hmul2 : (off + n) * i.size = off * i.size + n * i.size := Nat.add_mul _ _ _
      have hrun := storeCells_ok (P := P) k news (off * i.size + n * i.size) 0 w cells et fz a2 a3 (by omega) hst
      have hss : (setVals cells.toList (off * i.size + n * i.size + 0) news).toArray.size = cells.size := by simp [setVals_length]
      have hrl : (rows.take (off + n) ++ new ++ rows.drop (off + n + new.length)).length = rows.length := by simp; omega
      have hxx : (∃ c1 c2, (Blk.vec ver i.size rows) = .var c1 ∧ (Blk.vec ver i.size (rows.take (off + n) ++ new ++ rows.drop (off + n + new.length))) = .var c2) ∨ ∃ v1 v2 s1 s2 rs1 rs2, (Blk.vec ver i.size rows) = .vec v1 s1 rs1 ∧ (Blk.vec ver i.size (rows.take (off + n) ++ new ++ rows.drop (off + n + new.length))) = .vec v2 s2 rs2 ∧ v1 ≤ v2 ∧ (v1 = v2 → s1 = s2 ∧ rs1.length = rs2.length) :=
        .inr ⟨_, _, _, _, _, _, rfl, rfl, Nat.le_refl _, fun _ => ⟨rfl, hrl.symm⟩⟩
      have T := put_tr S hxb a1 (cells' := (setVals cells.toList (off * i.size + n * i.size + 0) news).toArray) a2 hss hxx
      have hp := append_place (w' := putB w k (.cells (setVals cells.toList (off * i.size + n * i.size + 0) news).toArray et fz)) ty htu hi z1 hS (some ⟨k, off * i.size, none⟩) n c hcap (by
        intro a ha; injection ha with ha; subst ha; rw [Addr.add_lit]; exact hrun) (by simp)
      refine ⟨_, _, φ, hp, T, ?_, ?_⟩
      · refine put_sim S hxb a1 a2 hss hxx ?_
        intro B hB hlt
        refine .inr ⟨k, et, fz, _, a1, putB_same w _ (blk_lt a2), by rw [hss]; exact a3, a4, by rw [hss, hrl]; exact a5, ?_⟩
        have hall := vec_vals a5 a6
        have h1 := hall.take (off + n)
        have h2 := hall.drop (off + n + new.length)
        have h3 := ((h1.append hR).append h2).tr T
        intro i' row' hi'
        have := h3.vec (rest := cells.toList.drop (rows.length * i.size)) i' row' hi'
        have e : (setVals cells.toList (off * i.size + n * i.size + 0) news).toArray.toList = (cells.toList.take (rows.length * i.size)).take ((off + n) * i.size) ++ news ++ (cells.toList.take (rows.length * i.size)).drop ((off + n + new.length) * i.size) ++ cells.toList.drop (rows.length * i.size) := by
          rw [Nat.add_zero, List.toList_toArray, setVals_append _ _ _ (by simp; omega), hmul, hmul2, List.take_take, Nat.min_eq_left (by omega)]
          rw [List.append_assoc (_ ++ news)]
          congr 1
          conv => lhs; rw [← List.take_append_drop (rows.length * i.size) cells.toList]
          rw [List.drop_append_of_le_length (by simp; omega)]
        rw [e]; exact this
      · refine .own _ _ _ _ _ _ _ (by simpa using hb) hcap ⟨?_, fun sz2 rows2 hh => ?_⟩
        · intro v2 s2 r2 hh
          rw [List.getElem?_set_self (idx_lt hxb)] at hh
          injection hh with hh; injection hh with e1 _ _; subst e1; exact Nat.le_refl _
        · rw [List.getElem?_set_self (idx_lt hxb)] at hh
          injection hh with hh; injection hh with _ e2 e3; subst e2; subst e3
          rw [hrl]
          refine ⟨by omega, q2, fun hk => by rw [a1] at hk; exact absurd hk (by simp), fun k2 hk2 => ?_⟩
          rw [a1] at hk2; injection hk2 with hk2; subst hk2
          refine ⟨.inl rfl, fun m hm => g6 m ?_⟩
          simp only [cellsIn, putB_same w _ (blk_lt a2), hss] at hm
          simp only [cellsIn, a2]; exact hm
    · -- it may have to grow
      rename_i hfit
      split at hr
      case isFalse => exact absurd hr (by simp)
      case isTrue hg =>
      obtain ⟨hbytes, hoff⟩ := hg
      subst hoff
      injection hr with hr; subst hr
      have hnle : n ≤ rows.length := by omega
      by_cases hcap : n + new.length ≤ c
      · -- in place
        rcases hblk with ⟨a1, a2, _⟩ | ⟨k, et, fz, cells, a1, a2, a3, a4, a5, a6⟩
        · have := q3 a1; omega
        obtain ⟨g5, g6⟩ := q4 k a1
        have hao : ao = some ⟨k, 0 * sz, none⟩ := by rcases g5 with e | e; exact e; omega
        subst hao
        have hs : sz = i.size := by rcases gsz with e | e; exact e; omega
        subst hs
        have hcell := g6 cells.size (by simp only [cellsIn, a2])
        have hle : (n + new.length) * i.size ≤ c * i.size := Nat.mul_le_mul_right _ hcap
        have hmul : (n + new.length) * i.size = n * i.size + news.length := by rw [hnl, Nat.add_mul]
        rw [Nat.zero_add] at hcell
        have hrun := storeCells_ok (P := P) k news (n * i.size) 0 w cells et fz a2 a3 (by omega) hst
        have hss : (setVals cells.toList (n * i.size + 0) news).toArray.size = cells.size := by simp [setVals_length]
        have hxx : (∃ c1 c2, (Blk.vec ver i.size rows) = .var c1 ∧ (Blk.vec (ver + 1) i.size (rows.take n ++ new)) = .var c2) ∨ ∃ v1 v2 s1 s2 rs1 rs2, (Blk.vec ver i.size rows) = .vec v1 s1 rs1 ∧ (Blk.vec (ver + 1) i.size (rows.take n ++ new)) = .vec v2 s2 rs2 ∧ v1 ≤ v2 ∧ (v1 = v2 → s1 = s2 ∧ rs1.length = rs2.length) :=
          .inr ⟨_, _, _, _, _, _, rfl, rfl, by omega, fun e => by omega⟩
        have T := put_tr S hxb a1 (cells' := (setVals cells.toList (n * i.size + 0) news).toArray) a2 hss hxx
        have hp := append_place (w' := putB w k (.cells (setVals cells.toList (n * i.size + 0) news).toArray et fz)) ty htu hi z1 hS (some ⟨k, 0 * i.size, none⟩) n c hcap (by
          intro a ha; injection ha with ha; subst ha; rw [Addr.add_lit, Nat.zero_mul, Nat.zero_add]; exact hrun) (by simp)
        refine ⟨_, _, φ, hp, T, ?_, ?_⟩
        · refine put_sim S hxb a1 a2 hss hxx ?_
          intro B hB hlt
          refine .inr ⟨k, et, fz, _, a1, putB_same w _ (blk_lt a2), by rw [hss]; exact a3, a4, by
            have hl2 : (rows.take n ++ new).length = n + new.length := by simp [Nat.min_eq_left hnle]
            rw [hss, hl2]
            show (n + new.length) * i.size ≤ cells.size
            rw [hmul]; omega, ?_⟩
          have h3 := (((vec_vals a5 a6).take n).append hR).tr T
          intro i' row' hi'
          have := h3.vec (rest := cells.toList.drop (n * i.size + news.length)) i' row' hi'
          have e : (setVals cells.toList (n * i.size + 0) news).toArray.toList = (cells.toList.take (rows.length * i.size)).take (n * i.size) ++ news ++ cells.toList.drop (n * i.size + news.length) := by
            have hq : n * i.size ≤ rows.length * i.size := Nat.mul_le_mul_right _ hnle
            rw [Nat.add_zero, List.toList_toArray, setVals_append _ _ _ (by simp; omega), List.take_take, Nat.min_eq_left hq]
          rw [e]; exact this
        · refine .own _ _ _ _ _ _ _ (by simpa using hb) hcap ⟨?_, fun sz2 rows2 hh => ?_⟩
          · intro v2 s2 r2 hh
            rw [List.getElem?_set_self (idx_lt hxb)] at hh
            injection hh with hh; injection hh with e1 _ _; subst e1; exact Nat.le_refl _
          · rw [List.getElem?_set_self (idx_lt hxb)] at hh
            injection hh with hh; injection hh with _ e2 e3; subst e2; subst e3
            refine ⟨by simp; omega, by simp; omega, fun hk => by rw [a1] at hk; exact absurd hk (by simp), fun k2 hk2 => ?_⟩
            rw [a1] at hk2; injection hk2 with hk2; subst hk2
            refine ⟨.inl rfl, fun m hm => g6 m ?_⟩
            simp only [cellsIn, putB_same w _ (blk_lt a2), hss] at hm
            simp only [cellsIn, a2]; exact hm
      · -- a new array
        have hold : ∃ olds : List Value, RowsL w φ h i.size (rows.take n) olds ∧ ∀ w2 : World, w2.heap = w.heap → (Builtin.firstCells i.size n (.slice ao n c)).run P w2 = .ok olds.toArray w2 := by
          have hxr : Rep w φ h h.length (.own b ver 0 n) (.slice ao n c) := .own _ _ _ _ _ _ _ hb hn ho
          cases n with
          | zero =>
            refine ⟨[], by rw [List.take_zero]; exact RowsL.nil _, fun w2 _ => ?_⟩
            cases ao with
            | none => rfl
            | some a => exact firstCells_some i.size 0 0 c a (by simp) (fun j v hj => by simp at hj)
          | succ n =>
            rcases hblk with ⟨a1, _⟩ | ⟨k, et, fz, cells, a1, a2, a3, a4, a5, a6⟩
            · have := q3 a1; omega
            obtain ⟨g5, g6⟩ := q4 k a1
            have hao : ao = some ⟨k, 0 * sz, none⟩ := by rcases g5 with e | e; exact e; omega
            subst hao
            have hs : sz = i.size := by rcases gsz with e | e; exact e; omega
            subst hs
            have hv := (vec_vals a5 a6).take (n + 1)
            refine ⟨_, hv, fun w2 hw => firstCells_some _ _ _ _ _ (by rw [hv.1]; simp [Nat.min_eq_left hnle]) fun j v hj => ?_⟩
            rw [Addr.add_lit, cell_heap hw, Nat.zero_mul, Nat.zero_add]
            rw [List.getElem?_take] at hj
            split at hj
            · rw [List.getElem?_take] at hj
              split at hj
              · simpa [World.cell?, a2] using hj
              · exact absurd hj (by simp)
            · exact absurd hj (by simp)
        obtain ⟨olds, hoR, hoF⟩ := hold
        obtain ⟨nc, hnc, hrun⟩ := append_grow ty htu hi z1 hS ao n c (by omega) hoF hbytes gb
        have hol : olds.length = n * i.size := by rw [hoR.1]; simp [Nat.min_eq_left hnle]
        have S2 := S.drew
        have hcs : (olds.toArray ++ news.toArray ++ Builtin.zeroCells zero.cells (nc - (n + new.length))).size = nc * i.size := by
          have hzs : zero.cells.size = i.size := by simpa using z2
          simp only [Array.size_append, size_zeroCells, hzs, List.size_toArray, hol, hnl]
          rw [← Nat.add_mul, ← Nat.add_mul]; congr 1; omega
        have T := move_tr S2 hxb (olds.toArray ++ news.toArray ++ Builtin.zeroCells zero.cells (nc - (n + new.length))) e i.size (rows.take n ++ new)
        have T1 := (Tr.drew0 w φ h).trans T
        refine ⟨_, _, _, hrun, T1, ?_, ?_⟩
        · refine move_sim S2 hxb _ _ _ _ ?_
          intro B hB hlt
          refine .inr ⟨w.heap.size, e, (0, 0), _, upd_same _ _ _, heap_push_new w.drew _, noFz00 _, gpos, ?_, ?_⟩
          · rw [hcs]
            have : (rows.take n ++ new).length = n + new.length := by simp [Nat.min_eq_left hnle]
            rw [this]
            exact Nat.mul_le_mul_right _ hnc
          · have h3 := (hoR.append hR).tr T1
            intro i' row' hi'
            have := h3.vec (rest := (Builtin.zeroCells zero.cells (nc - (n + new.length))).toList) i' row' hi'
            have e3 : (olds.toArray ++ news.toArray ++ Builtin.zeroCells zero.cells (nc - (n + new.length))).toList = olds ++ news ++ (Builtin.zeroCells zero.cells (nc - (n + new.length))).toList := by simp
            rw [e3]; exact this
        · refine .own _ _ _ _ _ _ _ (by simpa using hb) hnc ⟨?_, fun sz2 rows2 hh => ?_⟩
          · intro v2 s2 r2 hh
            rw [List.getElem?_set_self (idx_lt hxb)] at hh
            injection hh with hh; injection hh with e1 _ _; subst e1; exact Nat.le_refl _
          · rw [List.getElem?_set_self (idx_lt hxb)] at hh
            injection hh with hh; injection hh with _ e2 e3; subst e2; subst e3
            refine ⟨by simp; omega, by simp; omega, fun hk => by rw [upd_same] at hk; exact absurd hk (by simp), fun k2 hk2 => ?_⟩
            rw [upd_same] at hk2; injection hk2 with hk2; subst hk2
            refine ⟨.inl (by simp), fun m hm => ?_⟩
            have hnew := heap_push_new w.drew (.cells (olds.toArray ++ news.toArray ++ Builtin.zeroCells zero.cells (nc - (n + new.length))) e)
            simp only [cellsIn, hnew, hcs] at hm
            injection hm with hm
            rw [Nat.zero_add, ← hm]; exact Nat.le_refl _
end
end Go.Proofs.Ytckjogpdnkocbaa.Den
namespace Go.Proofs.Ytckjogpdnkocbaa.Den

section
variable {P : Program} {w w' : World} {φ φ' : Phi} {h h' : Heap} {B B' : Nat} {bs : List Nat} {env : Env} {nt : Nat} {act : Act}

/-- A new row of the call's own. -/
theorem new_row_at {w0 : World} (T0 : Tr w0 φ h w φ h) (S : Sim bs w φ h) {m : Sem Value} {cells : Array Value} {e : TypeId} {fz : Nat × Nat} {n cap sz : Nat} {rows : List (List A)} {vals rest : List Value}
    (hm : m.run P w0 = .ok (.slice (some ⟨w.heap.size, 0, none⟩) n cap) (w.alloc (.cells cells e fz))) (hcells : cells.toList = vals ++ rest) (hR : RowsL w φ h sz rows vals) (hn : n = rows.length) (hcap : n ≤ cap) (hsz : 0 < sz)
    (hz : NoFz fz cells.size) (hc : cap * sz ≤ cells.size) : Goes P m bs w0 φ h (.own h.length 0 0 n, h ++ [.vec 0 sz rows]) := by
  have T := alloc_tr S (.vec 0 sz rows) cells e fz
  refine ⟨_, _, _, hm, T0.trans T, alloc_sim S _ _ _ _ (.inr ⟨w.heap.size, e, fz, cells, upd_same _ _ _, heap_push_new _ _, hz, hsz, ?_, ?_⟩), ?_⟩
  · rw [← hn]; exact Nat.le_trans (Nat.mul_le_mul_right _ hcap) hc
  · intro i row hi
    rw [hcells]
    exact (hR.tr T).vec i row hi
  · refine .own _ _ _ _ _ _ _ (by simp) hcap ⟨fun v2 s2 r2 hh => Nat.zero_le _, fun s2 r2 hh => ?_⟩
    simp at hh
    obtain ⟨rfl, rfl⟩ := hh
    refine ⟨by omega, by omega, fun hk => by rw [upd_same] at hk; exact absurd hk (by simp), fun k hk => ?_⟩
    rw [upd_same] at hk; injection hk with hk; subst hk
    refine ⟨.inl (by simp), fun mm hmm => ?_⟩
    simp only [cellsIn, heap_push_new] at hmm
    injection hmm with hmm
    rw [Nat.zero_add, ← hmm]; exact hc

theorem new_row_ok (S : Sim bs w φ h) {m : Sem Value} {cells : Array Value} {e : TypeId} {fz : Nat × Nat} {n cap sz : Nat} {rows : List (List A)} {vals rest : List Value}
    (hm : m.run P w = .ok (.slice (some ⟨w.heap.size, 0, none⟩) n cap) (w.alloc (.cells cells e fz))) (hcells : cells.toList = vals ++ rest) (hR : RowsL w φ h sz rows vals) (hn : n = rows.length) (hcap : n ≤ cap) (hsz : 0 < sz)
    (hz : NoFz fz cells.size) (hc : cap * sz ≤ cells.size) : Goes P m bs w φ h (.own h.length 0 0 n, h ++ [.vec 0 sz rows]) :=
  new_row_at (Tr.refl _ _ _) S hm hcells hR hn hcap hsz hz hc

theorem zeroRow_cells (z : Array Value) (n sz : Nat) (hz : z.size = sz) : (Array.range (n * sz)).map (fun i => z[i % z.size]!) = Builtin.zeroCells z n := by
  subst hz; rfl

theorem makeSlice_ok (S : Sim bs w φ h) {t e : TypeId} {i : TypeInfo} {d : TypeDesc} (htu : P.underlying t = some (.slice e)) (hi : P.info? e = some i) {l c : Int} (h0 : 0 ≤ l) (h1 : l ≤ c) (h2 : c * i.bytes ≤ 140737488355328) (h3 : c ≤ 9223372036854775807)
    (hpos : 0 < i.size) (hz : (tiOf i d).zero.any (fun z => z.length == i.size) = true) {rows : List (List A)} (hr : zeroRows (tiOf i d) l.toNat = some rows) :
    Goes P (Instr.makeSlice t (.int .i64 l) (.int .i64 c)) bs w φ h (.own h.length 0 0 l.toNat, h ++ [.vec 0 i.size rows]) := by
  obtain ⟨zero, z1, z2, z3⟩ := zero_any hz
  simp only [zeroRows, z3, Option.map_some] at hr
  injection hr with hr; subst hr
  obtain ⟨l, rfl⟩ := Int.eq_ofNat_of_zero_le h0
  obtain ⟨c, rfl⟩ := Int.eq_ofNat_of_zero_le (Int.le_trans h0 h1)
  have hzs : zero.cells.size = i.size := by simpa using z2
  have hlc : l ≤ c := by omega
  simp only [Int.toNat_natCast]
  have hrun : (Instr.makeSlice t (.int .i64 l) (.int .i64 c)).run P w = .ok (.slice (some ⟨w.heap.size, 0, none⟩) l c) (w.alloc (.cells (Builtin.zeroCells zero.cells c) e)) := by
    unfold Instr.makeSlice
    refine (run_step (run_underlying htu w)).trans ?_
    refine (run_step (a := (l : Int)) (w' := w) rfl).trans ?_
    refine (run_step (a := (c : Int)) (w' := w) rfl).trans ?_
    refine (run_step (typeInfo_run hi)).trans ?_
    have hwl : IntKind.i64.wrap (l : Int) = l := i64_in (by omega) (by omega)
    have hwc : IntKind.i64.wrap (c : Int) = c := i64_in (by omega) (by omega)
    have hbc : ¬ ((i.bytes : Int) * (c : Int) > 2 ^ 48) := by
      rw [Int.mul_comm]
      intro hgt
      have : (c : Int) * (i.bytes : Int) ≤ 281474976710656 := by omega
      exact absurd this (Int.not_le.2 hgt)
    refine (run_neg (c := (((decide (IntKind.i64.wrap (c : Int) < 0) || decide ((i.bytes : Int) * IntKind.i64.wrap (c : Int) > 2 ^ 48)) || decide (IntKind.i64.wrap (l : Int) < 0)) || decide (IntKind.i64.wrap (l : Int) > IntKind.i64.wrap (c : Int))) = true) ?_).trans ?_
    · rw [hwl, hwc]
      simp only [Bool.or_eq_true, decide_eq_true_eq, not_or]
      exact ⟨⟨⟨by omega, hbc⟩, by omega⟩, by omega⟩
    rw [hwl, hwc]
    refine (run_step (askRoom_run _)).trans ?_
    refine (run_step (sizeOf_run hi)).trans ?_
    have hfin : ∀ (z : Array Value), (Array.range ((c : Int).toNat * i.size)).map (fun j => z[j % z.size]!) = Builtin.zeroCells zero.cells c →
        (do let a ← newRow e ((Array.range ((c : Int).toNat * i.size)).map (fun j => z[j % z.size]!)); pure (Value.slice (some a) (l : Int).toNat (c : Int).toNat) : Sem Value).run P w =
          .ok (.slice (some ⟨w.heap.size, 0, none⟩) l c) (w.alloc (.cells (Builtin.zeroCells zero.cells c) e)) := by
      intro z hz
      rw [hz]
      rfl
    by_cases hn : c * i.size = 0
    · refine (run_pos (c := (c : Int).toNat * i.size = 0) hn).trans ?_
      refine (run_step (a := #[]) (w' := w) rfl).trans (hfin #[] ?_)
      have hc0 : c = 0 := by
        rcases Nat.mul_eq_zero.1 hn with e | e
        · exact e
        · omega
      subst hc0
      simp [Builtin.zeroCells]
    · refine (run_neg (c := (c : Int).toNat * i.size = 0) hn).trans ?_
      refine (run_step (zeroValue_run hi z1)).trans ?_
      refine (run_step (a := zero.cells) (w' := w) rfl).trans (hfin zero.cells ?_)
      exact zeroRow_cells _ _ _ hzs
  have hcl := zeroCells_list zero.cells c
  obtain ⟨k, rfl⟩ := Nat.exists_eq_add_of_le hlc
  refine new_row_ok S hrun (vals := (List.replicate l zero.cells.toList).flatten) (rest := (List.replicate k zero.cells.toList).flatten) ?_ (zero_rowsL zero _ z2 l) (by simp) (by omega) hpos (noFz00 _) ?_
  · rw [hcl, ← List.flatten_append, List.replicate_append_replicate]
  · rw [size_zeroCells, hzs]; exact Nat.le_refl _

/-! Literals. -/
theorem foldl_setVals (off : Nat) : ∀ (vs : List Value) (j : Nat) (cells : Array Value), ((vs.zipIdx j).foldl (fun cs (x : Value × Nat) => cs.setIfInBounds (off + x.2) x.1) cells).toList = setVals cells.toList (off + j) vs
  | [], _, _ => rfl
  | v :: vs, j, cells => by
    simp only [List.zipIdx_cons, List.foldl_cons, setVals]
    rw [foldl_setVals off vs (j + 1)]
    rw [show off + (j + 1) = off + j + 1 by omega]
    simp

theorem fill_one (place : Nat → Option (Nat × Nat)) (cells : Array Value) (i off size : Nat) (v : Value) (rest : List (Nat × Value)) (hp : place i = some (off, size)) (hs : v.cells.size = size) (hle : off + size ≤ cells.size) :
    Instr.fill place cells ((i, v) :: rest) = Instr.fill place (setVals cells.toList off v.cells.toList).toArray rest := by
  subst hs
  simp only [Instr.fill, hp]
  rw [if_neg (by simp; omega)]
  congr 1
  apply Array.ext'
  have := foldl_setVals off v.cells.toList 0 cells
  rw [Nat.add_zero] at this
  rw [← this, ← Array.foldl_toList]
  simp
end
end Go.Proofs.Ytckjogpdnkocbaa.Den
namespace Go.Proofs.Ytckjogpdnkocbaa.Den

section
variable {P : Program} {w w' : World} {φ φ' : Phi} {h h' : Heap} {B B' : Nat} {bs : List Nat} {env : Env} {nt : Nat} {act : Act}

theorem setVals_app : ∀ (v r cells : List Value) (o : Nat), setVals cells o (v ++ r) = setVals (setVals cells o v) (o + v.length) r
  | [], _, _, _ => rfl
  | a :: v, r, cells, o => by
    simp only [List.cons_append, setVals, List.length_cons]
    rw [setVals_app v r]
    congr 1; omega

theorem fill_rows (size : Nat) : ∀ (parts : List (Nat × Value)) (i : Nat) (cells : Array Value), (∀ k p, parts[k]? = some p → p.1 = i + k ∧ p.2.cells.size = size) → (i + parts.length) * size ≤ cells.size →
    Instr.fill (fun i => some (i * size, size)) cells parts = some (setVals cells.toList (i * size) (parts.flatMap fun p => p.2.cells.toList)).toArray
  | [], i, cells, _, _ => by simp [Instr.fill, setVals]
  | (j, v) :: rest, i, cells, hp, hle => by
    obtain ⟨h1, h2⟩ := hp 0 (j, v) rfl
    simp only [Nat.add_zero] at h1
    subst h1
    have hle' : (j + 1) * size ≤ cells.size := Nat.le_trans (Nat.mul_le_mul_right _ (by rw [List.length_cons]; omega)) hle
    rw [Nat.succ_mul] at hle'
    rw [fill_one _ cells j (j * size) size v rest rfl h2 hle']
    rw [fill_rows size rest (j + 1) _ (fun k p hk => by
      obtain ⟨a, b⟩ := hp (k + 1) p (by simpa using hk)
      exact ⟨by omega, b⟩) (by
        have e : j + 1 + rest.length = j + ((j, v) :: rest).length := by simp; omega
        rw [e]; simpa [setVals_length] using hle)]
    rw [List.flatMap_cons, setVals_app]
    have e : (j + 1) * size = j * size + v.cells.toList.length := by rw [Nat.succ_mul]; simp [h2]
    rw [e]

/-- Parts and what they are. -/
inductive RepP (w : World) (φ : Phi) (h : Heap) (B : Nat) : List (Nat × A) → List (Nat × Value) → Prop
  | nil : RepP w φ h B [] []
  | cons (i : Nat) (a : A) (as : List (Nat × A)) (v : Value) (vs : List (Nat × Value)) (ha : Rep w φ h B a v) (hr : RepP w φ h B as vs) : RepP w φ h B ((i, a) :: as) ((i, v) :: vs)

theorem evParts_ok (nt : Nat) : ∀ (ps : List (Nat × Operand)) {h : Heap}, RelE w φ h nt env act → Sim bs w φ h → Tr w φ h w φ (evParts env ps h).2 ∧ Sim bs w φ (evParts env ps h).2 ∧
    RepP w φ (evParts env ps h).2 (evParts env ps h).2.length (evParts env ps h).1 (ps.map fun x => (x.1, act.eval x.2))
  | [], _, _, S => ⟨Tr.refl _ _ _, S, .nil⟩
  | (i, x) :: ps, h, R, S => by
    obtain ⟨T1, S1, R1⟩ := R.evN S x
    obtain ⟨T2, S2, R2⟩ := evParts_ok nt ps (R.tr T1) S1
    exact ⟨T1.trans T2, S2, .cons _ _ _ _ _ (R1.tr T2 (Nat.le_refl _) T2.len) R2⟩

theorem RepP.tr (T : Tr w φ h w' φ' h') (hB : B ≤ h.length) : ∀ {as : List (Nat × A)} {vs : List (Nat × Value)}, RepP w φ h B as vs → RepP w' φ' h' B as vs
  | _, _, .nil => .nil
  | _, _, .cons i a as v vs ha hr => .cons i a as v vs (ha.tr T hB (Nat.le_refl _)) (RepP.tr T hB hr)

theorem rowsOfParts_ok (size : Nat) : ∀ (ps : List (Nat × A)) {φ : Phi} {h : Heap} {B i : Nat} {vs : List (Nat × Value)} {rows : List (List A)} {h' : Heap}, Sim bs w φ h → B ≤ h.length → RepP w φ h B ps vs → rowsOfParts size i ps h = some (rows, h') →
    ∃ φ', Tr w φ h w φ' h' ∧ Sim bs w φ' h' ∧ RowsL w φ' h' size rows (vs.flatMap fun p => p.2.cells.toList) ∧ (∀ k p, vs[k]? = some p → p.1 = i + k ∧ p.2.cells.size = size) ∧ rows.length = vs.length
  | [], φ, h, _, _, _, _, _, S, _, hr, hh => by
    cases hr
    simp only [rowsOfParts] at hh
    injection hh with hh; injection hh with e1 e2; subst e1; subst e2
    exact ⟨φ, Tr.refl _ _ _, S, RowsL.nil _, fun k p hk => by simp at hk, rfl⟩
  | (j, a) :: ps, φ, h, B, i, _, _, _, S, hB, hr, hh => by
    cases hr with
    | cons _ _ _ v vs ha hr =>
      simp only [rowsOfParts] at hh
      split at hh
      case isFalse => exact absurd hh (by simp)
      case isTrue hc =>
      obtain ⟨rfl, hlen⟩ := hc
      cases h1 : frzL a.cells h with
      | none => simp [h1] at hh
      | some q =>
        obtain ⟨r, hh1⟩ := q
        simp only [h1] at hh
        cases h2 : rowsOfParts size (i + 1) ps hh1 with
        | none => simp [h2] at hh
        | some q2 =>
          obtain ⟨rs, hh2⟩ := q2
          simp only [h2] at hh
          injection hh with hh; injection hh with e1 e2; subst e1; subst e2
          have hnu : isUndef a = false := by
            cases a <;> first | rfl | (exfalso; simp [A.cells, frzL, frz1] at h1)
          have hcl := cells_toList hnu ha
          obtain ⟨φ1, T1, S1, R1⟩ := frzL_ok a.cells S hB h1 hcl
          obtain ⟨φ2, T2, S2, R2, hp, hl⟩ := rowsOfParts_ok size ps S1 (Nat.le_trans hB T1.len) (hr.tr T1 hB) h2
          have hvl : v.cells.size = size := by
            have := hcl.length_eq
            rw [hlen] at this; simpa using this.symm
          refine ⟨φ2, T1.trans T2, S2, ?_, fun k p hk => ?_, by simp [hl]⟩
          · rw [List.flatMap_cons]
            refine RowsL.cons ?_ ((R1 0).tr T2 (Nat.zero_le _) (Nat.le_refl _)) R2
            rw [(frzL_stor h1).2, hlen]
          · cases k with
            | zero => simp at hk; subst hk; exact ⟨rfl, hvl⟩
            | succ k =>
              obtain ⟨a1, a2⟩ := hp k p (by simpa using hk)
              exact ⟨by omega, a2⟩

theorem buildSlice_ok (S : Sim bs w φ h) {t e : TypeId} {i : TypeInfo} {d : TypeDesc} (htu : P.underlying t = some (.slice e)) (hi : P.info? e = some i) {ps : List (Nat × A)} {vs : List (Nat × Value)} (hr : RepP w φ h h.length ps vs) {len : Nat} (hl : len = vs.length)
    (h24 : len * i.size ≤ 16777216) (hpos : 0 < i.size) (hz : (tiOf i d).zero.isSome = true) {rows : List (List A)} {h2 : Heap} (hrows : rowsOfParts i.size 0 ps h = some (rows, h2)) :
    Goes P (Instr.buildSlice t len vs.toArray) bs w φ h (.own h2.length 0 0 len, h2 ++ [.vec 0 i.size rows]) := by
  obtain ⟨φ1, T1, S1, R1, hp, hrl⟩ := rowsOfParts_ok i.size ps S (Nat.le_refl _) hr hrows
  have hzz : ∃ zv, i.zero = some zv := by
    cases hv : i.zero with
    | none => simp [tiOf, hv] at hz
    | some zv => exact ⟨zv, rfl⟩
  obtain ⟨zero, z1⟩ := hzz
  have hfill : ∀ z : Array Value, Instr.fill (fun j => some (j * i.size, i.size)) ((Array.range (len * i.size)).map (fun j => z[j % z.size]!)) vs = some (vs.flatMap fun p => p.2.cells.toList).toArray := by
    intro z
    rw [fill_rows i.size vs 0 _ (by simpa using hp) (by simp [hl])]
    congr 1
    have hfl : (vs.flatMap fun p => p.2.cells.toList).length = len * i.size := by rw [R1.1, hrl, hl]
    rw [Nat.zero_mul, setVals_append _ _ _ (by simp [hfl])]
    rw [List.take_zero, List.nil_append, List.drop_of_length_le (by simp [hfl]), List.append_nil]
  have hrun : (Instr.buildSlice t len vs.toArray).run P w = .ok (.slice (some ⟨w.heap.size, 0, none⟩) len len) (w.alloc (.cells (vs.flatMap fun p => p.2.cells.toList).toArray e)) := by
    unfold Instr.buildSlice
    refine (run_step (run_underlying htu w)).trans ?_
    refine (run_step (sizeOf_run hi)).trans ?_
    refine (run_neg (c := len * i.size > 2 ^ 24) (by omega)).trans ?_
    by_cases hn : len * i.size = 0
    · refine (run_pos (c := len * i.size = 0) hn).trans ?_
      refine (run_step (a := #[]) (w' := w) rfl).trans ?_
      have := hfill #[]
      show (match Instr.fill (fun j => some (j * i.size, i.size)) ((Array.range (len * i.size)).map (fun j => (#[] : Array Value)[j % (#[] : Array Value).size]!)) vs with
        | some cells => (do pure (Value.slice (some (← newRow e cells)) len len) : Sem Value)
        | _ => stuck "buildSlice: a part of the wrong size").run P w = _
      rw [this]
      rfl
    · refine (run_neg (c := len * i.size = 0) hn).trans ?_
      refine (run_step (zeroValue_run hi z1)).trans ?_
      refine (run_step (a := zero.cells) (w' := w) rfl).trans ?_
      have := hfill zero.cells
      show (match Instr.fill (fun j => some (j * i.size, i.size)) ((Array.range (len * i.size)).map (fun j => zero.cells[j % zero.cells.size]!)) vs with
        | some cells => (do pure (Value.slice (some (← newRow e cells)) len len) : Sem Value)
        | _ => stuck "buildSlice: a part of the wrong size").run P w = _
      rw [this]
      rfl
  have G := new_row_ok S1 hrun (vals := vs.flatMap fun p => p.2.cells.toList) (rest := []) (by simp) R1 (by rw [hrl]; exact hl) (Nat.le_refl _) hpos (noFz00 _) (by
    have hfl : (vs.flatMap fun p => p.2.cells.toList).length = len * i.size := by rw [R1.1, hrl, hl]
    rw [List.size_toArray, hfl]; exact Nat.le_refl _)
  obtain ⟨v, w2, φ2, a, b, c, dd⟩ := G
  exact ⟨v, w2, φ2, a, T1.trans b, c, dd⟩
end
end Go.Proofs.Ytckjogpdnkocbaa.Den
namespace Go.Proofs.Ytckjogpdnkocbaa.Den

section
variable {P : Program} {w w' : World} {φ φ' : Phi} {h h' : Heap} {B B' : Nat} {bs : List Nat} {env : Env} {nt : Nat} {act : Act}

theorem sizes_run : ∀ (fs : List Field) {d : List (Nat × Nat)}, fs.map (fun f => (P.info? f.type).map fun i => (f.offset, i.size)) = d.map some →
    (fs.mapM fun f => do pure (f.offset, ← sizeOf f.type) : Sem (List (Nat × Nat))).run P w = .ok d w
  | [], d, hd => by
    cases d with
    | nil => rfl
    | cons => simp at hd
  | f :: fs, d, hd => by
    cases d with
    | nil => simp at hd
    | cons p d =>
      simp only [List.map_cons, List.cons.injEq] at hd
      obtain ⟨h1, h2⟩ := hd
      cases hi : P.info? f.type with
      | none => simp [hi] at h1
      | some i =>
        simp only [hi, Option.map_some, Option.some.injEq] at h1
        subst h1
        rw [List.mapM_cons]
        refine (run_step (a := (f.offset, i.size)) (w' := w) ?_).trans ?_
        · refine (run_step (sizeOf_run hi)).trans rfl
        · refine (run_step (sizes_run fs h2)).trans rfl

theorem fill_build (flds : List (Nat × TypeId)) (places : List (Nat × Nat)) (hpl : ∀ (i off : Nat) (t : TypeId), flds[i]? = some (off, t) → ∀ ti, tab P t = some ti → places[i]? = some (off, ti.size)) :
    ∀ (ps : List (Nat × A)) (vs : List (Nat × Value)) (cs cs' : List A) (us : List Value), RepP w φ h B ps vs → RepL w φ h B cs us → buildA P flds cs ps = some cs' →
      ∃ us', Instr.fill (fun i => places.toArray[i]?) us.toArray vs = some us'.toArray ∧ RepL w φ h B cs' us'
  | [], _, cs, cs', us, hr, hc, hb => by
    cases hr
    simp only [buildA, Option.some.injEq] at hb
    subst hb
    exact ⟨us, rfl, hc⟩
  | (i, a) :: ps, _, cs, cs', us, hr, hc, hb => by
    cases hr with
    | cons _ _ _ v vs ha hr =>
      simp only [buildA] at hb
      cases hf : flds[i]? with
      | none => simp [hf] at hb
      | some q =>
        obtain ⟨off, t⟩ := q
        simp only [hf] at hb
        cases ht : tab P t with
        | none => simp [ht] at hb
        | some ti =>
          simp only [ht] at hb
          split at hb
          case isFalse => exact absurd hb (by simp)
          case isTrue hcnd =>
          obtain ⟨h1, h2, h3⟩ := hcnd
          have hcl := cells_toList h3 ha
          have hl := hcl.length_eq
          have hlc := hc.length_eq
          rw [fill_one _ us.toArray i off ti.size v vs (by simpa using hpl i off t hf ti ht) (by rw [← h1, hl]; simp) (by simpa [← hlc] using h2)]
          exact fill_build flds places hpl ps vs _ cs' _ hr (hc.setCells off hcl) hb

theorem build_ok (R : RelE w φ h nt env act) (S : Sim bs w φ h) {t : TypeId} {ti : TI} (ht : tab P t = some ti) {z : List Value} (hz : ti.zero = some z)
    (hf : (ti.fields.all fun f => (tab P f.2).isSome) = true) (hne : ti.fields.isEmpty = false) {ps : List (Nat × Operand)} {cs : List A}
    (hb : buildA P ti.fields (virtL z h).1 (evParts env ps (virtL z h).2).1 = some cs) :
    Goes P (Instr.build t (ps.map fun x => (x.1, act.eval x.2)).toArray) bs w φ h (.agg cs, (evParts env ps (virtL z h).2).2) := by
  obtain ⟨i, d, hi, hd, rfl⟩ := tab_inv ht
  obtain ⟨zv, hz1, rfl⟩ := zero_inv hz
  obtain ⟨T1, S1, R1⟩ := virtL_ok zv.cells.toList S
  obtain ⟨T2, S2, R2⟩ := evParts_ok (act := act) nt ps (R.tr T1) S1
  have R1' := R1.tr T2 (Nat.le_refl _) T2.len
  have hstr : ∃ fs, d = .struct fs := by
    cases d <;> first | exact ⟨_, rfl⟩ | (simp [tiOf] at hne)
  obtain ⟨fs, rfl⟩ := hstr
  have hfl : (tiOf i (.struct fs)).fields = fs.toList.map fun f => (f.offset, f.type) := rfl
  rw [hfl] at hb hf
  obtain ⟨d2, hd2⟩ : ∃ d2 : List (Nat × Nat), fs.toList.map (fun f => (P.info? f.type).map fun i => (f.offset, i.size)) = d2.map some := by
    generalize fs.toList = l at hf
    induction l with
    | nil => exact ⟨[], rfl⟩
    | cons f l ih =>
      simp only [List.map_cons, List.all_cons, Bool.and_eq_true] at hf
      obtain ⟨d2, e⟩ := ih hf.2
      cases ht2 : tab P f.type with
      | none => simp [ht2] at hf
      | some ti2 =>
        obtain ⟨i2, d3, hi2, _, _⟩ := tab_inv ht2
        exact ⟨(f.offset, i2.size) :: d2, by simp [hi2, e]⟩
  obtain ⟨us', hfill, R3⟩ := fill_build (P := P) _ d2 (fun j off ty hj tj htj => by
    obtain ⟨i3, d3, hi3, _, rfl⟩ := tab_inv htj
    have h1 : (fs.toList.map (fun f => (P.info? f.type).map fun i => (f.offset, i.size)))[j]? = (d2.map some)[j]? := by rw [hd2]
    rw [List.getElem?_map] at hj h1
    cases hfj : fs.toList[j]? with
    | none => simp [hfj] at hj
    | some f =>
      simp only [hfj, Option.map_some, Option.some.injEq, Prod.mk.injEq] at hj
      obtain ⟨rfl, rfl⟩ := hj
      rw [List.getElem?_map] at h1
      simp only [hfj, Option.map_some, hi3] at h1
      cases hdj : d2[j]? with
      | none => simp [hdj] at h1
      | some q => simp only [hdj, Option.map_some, Option.some.injEq] at h1; rw [← h1]; rfl) _ _ _ _ _ R2 R1' hb
  refine ⟨.agg us'.toArray, w, φ, ?_, T1.trans T2, S2, .agg _ _ _ R3⟩
  unfold Instr.build
  refine (run_step (zeroValue_run hi hz1)).trans ?_
  refine (run_step (run_underlying hd w)).trans ?_
  have hm : (fs.mapM fun f => do pure (f.offset, ← sizeOf f.type) : Sem (Array (Nat × Nat))).run P w = .ok d2.toArray w := by
    rw [Array.mapM_eq_mapM_toList]
    exact run_step (sizes_run fs.toList hd2)
  refine (run_step hm).trans ?_
  show (match Instr.fill (fun x => d2.toArray[x]?) zv.cells (ps.map fun x : Nat × Operand => (x.1, act.eval x.2)) with
    | some cells => (pure (Value.agg cells) : Sem Value)
    | _ => stuck "build: no such field, or a part of the wrong size").run P w = _
  have e : zv.cells.toList.toArray = zv.cells := by simp
  rw [e] at hfill
  rw [hfill]
  rfl
end
end Go.Proofs.Ytckjogpdnkocbaa.Den
namespace Go.Proofs.Ytckjogpdnkocbaa.Den

section
variable {P : Program} {w w' : World} {φ φ' : Phi} {h h' : Heap} {B B' : Nat} {bs : List Nat} {env : Env} {nt : Nat} {act : Act}

theorem ik_some {i : TypeInfo} {d : TypeDesc} {k : IntKind} (hk : (tiOf i d).ik = some k) : d = .int k := by
  cases d <;> simp [tiOf] at hk
  subst hk; rfl

theorem isStr_d {i : TypeInfo} {d : TypeDesc} (hk : (tiOf i d).isStr = true) : d = .string := by
  cases d <;> first | rfl | (simp [tiOf] at hk)

theorem isU8_inv {t : TypeId} {ti : TI} (ht : tab P t = some ti) (hu : isU8 P ti = true) : ∃ e i, P.underlying t = some (.slice e) ∧ P.underlying e = some (.int .u8) ∧ P.info? e = some i := by
  unfold isU8 at hu
  cases he : ti.elem with
  | none => simp [he] at hu
  | some e =>
    simp only [he] at hu
    cases hte : tab P e with
    | none => simp [hte] at hu
    | some te =>
      simp only [hte, decide_eq_true_eq] at hu
      obtain ⟨i, d, hi, hd, rfl⟩ := tab_inv hte
      have := ik_some hu
      subst this
      exact ⟨e, i, elem_inv ht he, hd, hi⟩

theorem u8s_spec : ∀ {rows : List (List A)} {l : List UInt8}, u8s rows = some l → ∃ ns : List Int, rows = ns.map (fun n => [A.int .u8 n]) ∧ l = ns.map fun n => UInt8.ofNat n.toNat
  | [], l, hl => by
    simp only [u8s, Option.some.injEq] at hl; subst hl
    exact ⟨[], rfl, rfl⟩
  | [] :: _, l, hl => by simp [u8s] at hl
  | (a :: b :: r) :: _, l, hl => by simp [u8s] at hl
  | [a] :: rows, l, hl => by
    simp only [u8s] at hl
    cases h1 : u8 a with
    | none => simp [h1] at hl
    | some c =>
      cases h2 : u8s rows with
      | none => simp [h1, h2] at hl
      | some cs =>
        simp only [h1, h2, Option.some.injEq] at hl
        subst hl
        obtain ⟨ns, e1, e2⟩ := u8s_spec h2
        unfold u8 at h1
        split at h1
        · rename_i n
          injection h1 with h1
          exact ⟨n :: ns, by rw [e1]; rfl, by rw [e2, ← h1]; rfl⟩
        · exact absurd h1 (by simp)

theorem szOk_ints (k : IntKind) : ∀ ns : List Int, szOk 1 (ns.map fun n => [A.int k n]) = true
  | [] => rfl
  | n :: ns => by
    have := szOk_ints k ns
    simp only [szOk] at this ⊢
    rw [List.map_cons, List.all_cons, this]
    rfl

theorem rows_ints (k : IntKind) {ns : List Int} {vals : List Value} (hr : RowsL w φ h 1 (ns.map fun n => [A.int k n]) vals) : vals = ns.map (Value.int k) := by
  apply List.ext_getElem?
  intro i
  have hl := hr.1
  simp only [List.length_map, Nat.mul_one] at hl
  rcases Nat.lt_or_ge i ns.length with hi | hi
  · have h1 := (hr.2 i [A.int k ns[i]] (by simp [List.getElem?_eq_getElem hi])).2
    rw [Nat.mul_one] at h1
    have h2 : ((vals.drop i).take 1) = [.int k ns[i]] := by
      cases hv : (vals.drop i).take 1 with
      | nil => rw [hv] at h1; cases h1
      | cons v vs =>
        rw [hv] at h1
        cases h1 with
        | cons _ _ _ _ _ ha hrr => cases ha; cases hrr; rfl
    have h3 : ((vals.drop i).take 1)[0]? = some (.int k ns[i]) := by rw [h2]; rfl
    rw [List.getElem?_take_of_lt (by omega), List.getElem?_drop, Nat.add_zero] at h3
    rw [h3]; simp [List.getElem?_eq_getElem hi]
  · rw [List.getElem?_eq_none (by omega), List.getElem?_eq_none (by simpa using hi)]

theorem rowsL_ints (k : IntKind) (ns : List Int) : RowsL w φ h 1 (ns.map fun n => [A.int k n]) (ns.map (Value.int k)) := by
  induction ns with
  | nil => exact RowsL.nil 1
  | cons n ns ih => exact RowsL.cons (v := [Value.int k n]) rfl (.cons _ _ _ _ _ (.int _ _ _) (.nil _)) ih

theorem foldl_push : ∀ (ns : List Int) (r : ByteArray), ns.foldl (fun r n => r.push (UInt8.ofNat n.toNat)) r = ⟨r.data ++ (ns.map fun n => UInt8.ofNat n.toNat).toArray⟩
  | [], r => by simp
  | n :: ns, r => by
    simp only [List.foldl_cons]
    rw [foldl_push ns]
    simp [ByteArray.push]

theorem byteRows_ints (l : List UInt8) : byteRows l = (l.map fun c => (c.toNat : Int)).map fun n => [A.int .u8 n] := by
  simp [byteRows]

theorem convA_ok (S : Sim bs w φ h) {s d : TypeId} {ts td : TI} (hs : tab P s = some ts) (hd : tab P d = some td) {a : A} {r : A × Heap} (hc : convA P ts td a h = some r) {v : Value} (ha : Rep w φ h h.length a v) :
    Goes P (convert s d v) bs w φ h r := by
  obtain ⟨i1, d1, hi1, hd1, rfl⟩ := tab_inv hs
  obtain ⟨i2, d2, hi2, hd2, rfl⟩ := tab_inv hd
  unfold convA at hc
  split at hc
  · rename_i k n
    cases hk : (tiOf i2 d2).ik with
    | none => simp [hk] at hc
    | some k2 =>
      simp only [hk, Option.some.injEq] at hc; subst hc
      have := ik_some hk; subst this
      cases ha
      refine Goes.same S ?_ (.int _ _ _)
      unfold convert
      exact (run_step (run_underlying hd1 w)).trans ((run_step (run_underlying hd2 w)).trans (by rfl))
  · rename_i b
    split at hc
    case isFalse => exact absurd hc (by simp)
    case isTrue hstr =>
    have := isStr_d hstr; subst this
    cases ha
    split at hc
    · rename_i hstr2
      have := isStr_d hstr2; subst this
      injection hc with hc; subst hc
      refine Goes.same S ?_ (.str _ _)
      unfold convert
      exact (run_step (run_underlying hd1 w)).trans ((run_step (run_underlying hd2 w)).trans (by rfl))
    · split at hc
      case isFalse => exact absurd hc (by simp)
      case isTrue hu =>
      injection hc with hc; subst hc
      obtain ⟨e, ie, hu1, hu2, hu3⟩ := isU8_inv hd hu
      have hrun := run_bytes_of_string (P := P) w s d e ⟨b.toArray⟩ hd1 hu1 hu2
      have hsz : (ByteArray.mk b.toArray).size = b.length := by simp [ByteArray.size]
      have hge := grownCap_ge w (ByteArray.mk b.toArray).size 0 e
      have hbr : (bytesRow ⟨b.toArray⟩ (grownCap w (ByteArray.mk b.toArray).size 0 e)).toList = (b.map fun c => (c.toNat : Int)).map (Value.int .u8) ++ List.replicate (grownCap w (ByteArray.mk b.toArray).size 0 e - b.length) (.int .u8 0) := by
        simp [bytesRow, hsz]
      have hsize : (bytesRow ⟨b.toArray⟩ (grownCap w (ByteArray.mk b.toArray).size 0 e)).size = grownCap w (ByteArray.mk b.toArray).size 0 e := by
        rw [← Array.length_toList, hbr]
        simp
        rw [hsz] at hge ⊢; omega
      have := new_row_at (P := P) (sz := 1) (rows := byteRows b) (Tr.drew0 w φ h) S.drew hrun hbr (by rw [byteRows_ints]; exact rowsL_ints .u8 _) (by rw [hsz]; simp [byteRows]) hge Nat.one_pos (fun o ho hc => by omega) (by rw [hsize]; omega)
      rw [hsz] at this
      exact this
  · rename_i hni hns
    split at hc
    case isFalse => exact absurd hc (by simp)
    case isTrue hcnd =>
    obtain ⟨h1, h2, h3⟩ := hcnd
    have := isStr_d h1; subst this
    obtain ⟨e, ie, hu1, hu2, hu3⟩ := isU8_inv hs h2
    cases hrw : rowsOf h a with
    | none => simp [hrw] at hc
    | some rows =>
      cases hl : u8s rows with
      | none => simp [hrw, hl] at hc
      | some l =>
        simp only [hrw, hl, Option.some.injEq] at hc
        subst hc
        obtain ⟨ns, rfl, rfl⟩ := u8s_spec hl
        obtain ⟨vals, R1, hn, hfc⟩ := rows_src (P := P) S ha hrw (szOk_ints .u8 ns) Nat.one_pos
        have hv := rows_ints .u8 R1; subst hv
        have hfc := hfc w rfl
        have hsl : ∃ ao n c, v = .slice ao n c := by
          cases ha <;> first | exact ⟨_, _, _, rfl⟩ | (simp [lenA] at h3; done) | (exact absurd rfl (hns _))
        obtain ⟨ao, n, c, rfl⟩ := hsl
        have hn' : n = ns.length := by
          have : (Builtin.lenOf (.slice ao n c)).run P w = .ok n w := rfl
          rw [this] at hn
          injection hn with hn
          simpa using hn
        subst hn'
        refine Goes.same S (v := .string ⟨(ns.map fun n => UInt8.ofNat n.toNat).toArray⟩) ?_ (.str _ _)
        rw [run_convert_bytes_string w s d e _ _ _ hu1 hu2 hd2]
        cases ao with
        | none =>
          have : (Builtin.firstCells 1 (ns.map fun n => [A.int .u8 n]).length (.slice none ns.length c)).run P w = .ok #[] w := rfl
          rw [this] at hfc
          injection hfc with hfc
          have : ns = [] := by
            cases ns with
            | nil => rfl
            | cons => simp at hfc
          subst this
          rfl
        | some ad =>
          have : (loadCells ad ns.length).run P w = .ok (ns.map (Value.int .u8)).toArray w := by
            have h4 : (Builtin.firstCells 1 (ns.map fun n => [A.int .u8 n]).length (.slice (some ad) ns.length c)).run P w = (loadCells ad ((ns.map fun n => [A.int .u8 n]).length * 1)).run P w := rfl
            rw [h4] at hfc
            simpa using hfc
          rw [run_bytesToString w ad _ c ns this, foldl_push]
          simp
end
end Go.Proofs.Ytckjogpdnkocbaa.Den
