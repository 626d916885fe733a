/- What the journal's Append holds in memory while it runs.
   Conditions: none. -/
import Derived.Test.YtpdhjfnddnoghaaDoorJT
namespace Go.Proofs.YtpdhjfnddnoghaaDoor
open Go.RowKit Go.Lib
set_option linter.unusedVariables false
set_option linter.unusedSimpArgs false

/-- the boxes of Append's variables -/
structure ABox (bj be b6 b7 b8 b9 j fr nx : Nat) (ev : Int) (v8 v9 : Value) (wr : World) : Prop where
  cj : wr.heap[bj]? = some (.cells #[.pointer (some ⟨j, 0, none⟩)] 26 (0, 0))
  ce : wr.heap[be]? = some (.cells #[.int .i64 ev] 33 (0, 0))
  c6 : wr.heap[b6]? = some (.cells #[.int .i64 fr] 3 (0, 0))
  c7 : wr.heap[b7]? = some (.cells #[.int .i64 nx] 3 (0, 0))
  c8 : wr.heap[b8]? = some (.cells #[v8] 27 (0, 0))
  c9 : wr.heap[b9]? = some (.cells #[v9] 27 (0, 0))
theorem ABox.same {bj be b6 b7 b8 b9 j fr nx : Nat} {ev : Int} {v8 v9 : Value} {wr w' : World} (h : ABox bj be b6 b7 b8 b9 j fr nx ev v8 v9 wr) (hb : ∀ b, b = bj ∨ b = be ∨ b = b6 ∨ b = b7 ∨ b = b8 ∨ b = b9 → w'.heap[b]? = wr.heap[b]?) :
    ABox bj be b6 b7 b8 b9 j fr nx ev v8 v9 w' :=
  ⟨(hb _ (by simp)).trans h.cj, (hb _ (by simp)).trans h.ce, (hb _ (by simp)).trans h.c6, (hb _ (by simp)).trans h.c7, (hb _ (by simp)).trans h.c8, (hb _ (by simp)).trans h.c9⟩
/-- Append's first loop: k8 empty sectors and k9 full ones are laid -/
structure AL (w : World) (bj be b6 b7 b8 b9 j fr nx base : Nat) (ps : List ByteArray) (pv : Value) (k8 k9 : Nat) (v8 v9 : Value) (wr : World) : Prop where
  box : ABox bj be b6 b7 b8 b9 j fr nx 0 v8 v9 wr
  lo : w.heap.size ≤ bj ∧ w.heap.size ≤ be ∧ w.heap.size ≤ b6 ∧ w.heap.size ≤ b7 ∧ w.heap.size ≤ b8 ∧ w.heap.size ≤ b9
  hi : bj < base ∧ be < base ∧ b6 < base ∧ b7 < base ∧ b8 < base ∧ b9 < base
  n89 : b8 ≠ b9
  o8 : wr.ownsRow base 9 1 v8 k8 (strs (List.replicate k8 zeroB))
  o9 : wr.ownsRow base 9 1 v9 k9 (strs ((fulls fr ps).take k9))
  sep : ∀ g, v8.ownBlock = some g → v9.ownBlock ≠ some g
  op : wr.ownsRow w.heap.size 9 1 pv ps.length (strs ps)
  pb : ∀ g, pv.ownBlock = some g → g < base
  be_ : Below w.heap.size w wr
  sz : base ≤ wr.heap.size
section
variable {w : World} {bj be b6 b7 b8 b9 j fr nx base : Nat} {ps : List ByteArray} {pv : Value} {k8 k9 : Nat} {v8 v9 : Value} {wr : World}
theorem heap_set_one {W : World} {b : Nat} {v : Value} {T : TypeId} (h : W.heap[b]? = some (.cells #[v] T (0, 0))) (x : Value) : (W.setCell ⟨b, 0, none⟩ x).heap[b]? = some (.cells #[x] T (0, 0)) :=
  Go.heap_setCell_same _ _ 0 _ _ x h
theorem AL.draw (h : AL w bj be b6 b7 b8 b9 j fr nx base ps pv k8 k9 v8 v9 wr) {W : World} (hW : Below wr.heap.size wr W) : AL w bj be b6 b7 b8 b9 j fr nx base ps pv k8 k9 v8 v9 W := by
  have hl := h.hi
  have hs := h.sz
  refine ⟨h.box.same fun b hb => hW.block b (by rcases hb with rfl | rfl | rfl | rfl | rfl | rfl <;> omega), h.lo, h.hi, h.n89, own_same h.o8 fun k hk => hW.block k (h.o8.lt k hk).2, own_same h.o9 fun k hk => hW.block k (h.o9.lt k hk).2, h.sep, own_same h.op fun k hk => hW.block k (h.op.lt k hk).2, h.pb, h.be_.trans (hW.mono h.be_.size), Nat.le_trans hs hW.size⟩
/-- behind 'empty = append(empty, zero())' -/
theorem AL.push8 (h : AL w bj be b6 b7 b8 b9 j fr nx base ps pv k8 k9 v8 v9 wr) {W w2 : World} (hW : Below wr.heap.size wr W) {g cap : Nat} (hown : w2.ownsRow base 9 1 (.slice (some ⟨g, 0, none⟩) (k8 + 1) cap) (k8 + 1) (strs (List.replicate k8 zeroB) ++ [.string zeroB]))
    (hgr : W.grownBy w2 v8.ownBlock) (hat : v8.ownBlock = some g ∨ g = W.heap.size) : AL w bj be b6 b7 b8 b9 j fr nx base ps pv (k8 + 1) k9 (.slice (some ⟨g, 0, none⟩) (k8 + 1) cap) v9 (w2.setCell ⟨b8, 0, none⟩ (.slice (some ⟨g, 0, none⟩) (k8 + 1) cap)) := by
  have hl := h.hi
  have hs := h.sz
  have hlo := h.lo
  have hws := hW.size
  have fr0 : ∀ b, b < wr.heap.size → v8.ownBlock ≠ some b → w2.heap[b]? = wr.heap[b]? := fun b hb hn => (hgr.block b (by omega) (fun e => hn e.symm)).trans (hW.block b hb)
  have box8 : ∀ b, b < base → v8.ownBlock ≠ some b := fun b hb e => by have := (h.o8.lt b e).1; omega
  have fr1 : ∀ b, b < wr.heap.size → v8.ownBlock ≠ some b → b ≠ b8 → (w2.setCell ⟨b8, 0, none⟩ (.slice (some ⟨g, 0, none⟩) (k8 + 1) cap)).heap[b]? = wr.heap[b]? := fun b hb hn h8 => (Below.heap_setCell _ _ _ _ h8).trans (fr0 b hb hn)
  have hb := h.box
  have t8 := fr0 b8 (by omega) (box8 b8 (by omega))
  refine ⟨⟨(fr1 bj (by omega) (box8 _ (by omega)) (ne_of_type hb.cj hb.c8 (by decide))).trans hb.cj, (fr1 be (by omega) (box8 _ (by omega)) (ne_of_type hb.ce hb.c8 (by decide))).trans hb.ce, (fr1 b6 (by omega) (box8 _ (by omega)) (ne_of_type hb.c6 hb.c8 (by decide))).trans hb.c6, (fr1 b7 (by omega) (box8 _ (by omega)) (ne_of_type hb.c7 hb.c8 (by decide))).trans hb.c7,
    heap_set_one (t8.trans hb.c8) _, (fr1 b9 (by omega) (box8 _ (by omega)) (fun e => h.n89 e.symm)).trans hb.c9⟩, h.lo, h.hi, h.n89, ?_, own_same h.o9 fun k hk => fr1 k (h.o9.lt k hk).2 (fun e => h.sep k e hk) (by have := (h.o9.lt k hk).1; omega), ?_, own_same h.op fun k hk => fr1 k (h.op.lt k hk).2 (box8 k (h.pb k hk)) ?_, h.pb, ?_, ?_⟩
  · have e : strs (List.replicate (k8 + 1) zeroB) = strs (List.replicate k8 zeroB) ++ [.string zeroB] := by unfold strs; rw [List.replicate_succ', List.map_append]; rfl
    rw [e]
    exact own_same hown fun k hk => Below.heap_setCell _ _ _ _ (by have := (hown.lt k hk).1; show k ≠ b8; omega)
  · intro g' hg' hv9
    have hgg : g = g' := by simpa [Value.ownBlock] using hg'
    subst hgg
    have := h.o9.lt _ hv9
    rcases hat with h1 | h1
    · exact h.sep _ h1 hv9
    · omega
  · obtain ⟨c, hc⟩ := own_type h.op hk
    exact ne_of_type hc hb.c8 (by decide)
  · have h1 : Below w.heap.size w W := h.be_.trans (hW.mono h.be_.size)
    refine (h1.grown hgr h1.size fun k hk => ?_).setCell (by show w.heap.size ≤ b8; omega) _
    have := (h.o8.lt k hk).1
    omega
  · have := hgr.size
    have e : (w2.setCell ⟨b8, 0, none⟩ (.slice (some ⟨g, 0, none⟩) (k8 + 1) cap)).heap.size = w2.heap.size := by simp [World.setCell]
    omega
theorem fulls_getElem (ps : List ByteArray) : ∀ (fr k : Nat) (hk : k < ps.length), (fulls fr ps)[k]'(by rw [fulls_len]; exact hk) = sectorB (fr + k) ps[k] := by
  induction ps with
  | nil => intro fr k hk; simp at hk
  | cons p ps ih =>
    intro fr k hk
    cases k with
    | zero => rfl
    | succ k =>
      have := ih (fr + 1) k (by simpa using hk)
      simp only [fulls, List.getElem_cons_succ]
      rw [this, show fr + 1 + k = fr + (k + 1) by omega]
/-- behind 'full = append(full, sector(from+i, p))' -/
theorem AL.push9 (h : AL w bj be b6 b7 b8 b9 j fr nx base ps pv k8 k9 v8 v9 wr) (hk9 : k9 < ps.length) {W w2 : World} (hW : Below wr.heap.size wr W) {g cap : Nat} (hown : w2.ownsRow base 9 1 (.slice (some ⟨g, 0, none⟩) (k9 + 1) cap) (k9 + 1) (strs ((fulls fr ps).take k9) ++ [.string (sectorB (fr + k9) ps[k9])]))
    (hgr : W.grownBy w2 v9.ownBlock) (hat : v9.ownBlock = some g ∨ g = W.heap.size) : AL w bj be b6 b7 b8 b9 j fr nx base ps pv k8 (k9 + 1) v8 (.slice (some ⟨g, 0, none⟩) (k9 + 1) cap) (w2.setCell ⟨b9, 0, none⟩ (.slice (some ⟨g, 0, none⟩) (k9 + 1) cap)) := by
  have hl := h.hi
  have hs := h.sz
  have hlo := h.lo
  have hws := hW.size
  have fr0 : ∀ b, b < wr.heap.size → v9.ownBlock ≠ some b → w2.heap[b]? = wr.heap[b]? := fun b hb hn => (hgr.block b (by omega) (fun e => hn e.symm)).trans (hW.block b hb)
  have box8 : ∀ b, b < base → v9.ownBlock ≠ some b := fun b hb e => by have := (h.o9.lt b e).1; omega
  have fr1 : ∀ b, b < wr.heap.size → v9.ownBlock ≠ some b → b ≠ b9 → (w2.setCell ⟨b9, 0, none⟩ (.slice (some ⟨g, 0, none⟩) (k9 + 1) cap)).heap[b]? = wr.heap[b]? := fun b hb hn h8 => (Below.heap_setCell _ _ _ _ h8).trans (fr0 b hb hn)
  have hb := h.box
  have t8 := fr0 b9 (by omega) (box8 b9 (by omega))
  refine ⟨⟨(fr1 bj (by omega) (box8 _ (by omega)) (ne_of_type hb.cj hb.c9 (by decide))).trans hb.cj, (fr1 be (by omega) (box8 _ (by omega)) (ne_of_type hb.ce hb.c9 (by decide))).trans hb.ce, (fr1 b6 (by omega) (box8 _ (by omega)) (ne_of_type hb.c6 hb.c9 (by decide))).trans hb.c6, (fr1 b7 (by omega) (box8 _ (by omega)) (ne_of_type hb.c7 hb.c9 (by decide))).trans hb.c7,
    (fr1 b8 (by omega) (box8 _ (by omega)) h.n89).trans hb.c8, heap_set_one (t8.trans hb.c9) _⟩, h.lo, h.hi, h.n89, own_same h.o8 fun k hk => fr1 k (h.o8.lt k hk).2 (fun e => h.sep k hk e) (by have := (h.o8.lt k hk).1; omega), ?_, ?_, own_same h.op fun k hk => fr1 k (h.op.lt k hk).2 (box8 k (h.pb k hk)) ?_, h.pb, ?_, ?_⟩
  · have hfl := fulls_len ps fr
    have e : strs ((fulls fr ps).take (k9 + 1)) = strs ((fulls fr ps).take k9) ++ [.string (sectorB (fr + k9) ps[k9])] := by
      unfold strs
      rw [List.take_succ_eq_append_getElem (show k9 < (fulls fr ps).length by omega), List.map_append, fulls_getElem]
      rfl
    rw [e]
    exact own_same hown fun k hk => Below.heap_setCell _ _ _ _ (by have := (hown.lt k hk).1; show k ≠ b9; omega)
  · intro g' hg' hv9
    have hgg : g = g' := by simpa [Value.ownBlock] using hv9
    subst hgg
    have := h.o8.lt _ hg'
    rcases hat with h1 | h1
    · exact h.sep _ hg' h1
    · omega
  · obtain ⟨c, hc⟩ := own_type h.op hk
    exact ne_of_type hc hb.c9 (by decide)
  · have h1 : Below w.heap.size w W := h.be_.trans (hW.mono h.be_.size)
    refine (h1.grown hgr h1.size fun k hk => ?_).setCell (by show w.heap.size ≤ b9; omega) _
    have := (h.o9.lt k hk).1
    omega
  · have := hgr.size
    have e : (w2.setCell ⟨b9, 0, none⟩ (.slice (some ⟨g, 0, none⟩) (k9 + 1) cap)).heap.size = w2.heap.size := by simp [World.setCell]
    omega
end
/-! ### the steps, one after the other -/
def DS.from_ (st : DS) (c : Nat) (ps : List ByteArray) (k : Nat) : DS × Int :=
  if k = 0 then st.writeM ((2 + c : Nat) : Int) (List.replicate ps.length zeroB)
  else if k = 1 then st.writeM ((2 + c : Nat) : Int) (fulls (2 + c) ps)
  else if k = 2 then st.writeM ((1 : Nat) : Int) [headB 1 (c + ps.length)]
  else st.writeM ((0 : Nat) : Int) [headB 0 (c + ps.length)]
/-- what is left of the steps, when k of them are done -/
def DS.left_ (c : Nat) (ps : List ByteArray) : Nat → DS → DS × Int
  | 0, st => (st, 0)
  | n + 1, st => if (st.from_ c ps (3 - n)).2 = 0 then DS.left_ c ps n (st.from_ c ps (3 - n)).1 else st.from_ c ps (3 - n)
theorem left_eta {c : Nat} {ps : List ByteArray} (x : DS × Int) : (if x.2 = 0 then (x.1, (0 : Int)) else x) = x := by
  split
  · rename_i h; exact Prod.ext rfl h.symm
  · rfl
theorem steps_left (st : DS) (c : Nat) (ps : List ByteArray) : st.steps c ps = DS.left_ c ps 4 st := by
  unfold DS.steps
  simp only [DS.left_, DS.from_, Nat.sub_self, show (3 - 0 = 3) from rfl, show (3 - 1 = 2) from rfl, show (3 - 2 = 1) from rfl, if_true, if_false, show ¬ (3 = 0) by omega, show ¬ (3 = 1) by omega, show ¬ (3 = 2) by omega, show ¬ (2 = 0) by omega, show ¬ (2 = 1) by omega, show ¬ (1 = 0) by omega, left_eta (c := c) (ps := ps)]
end Go.Proofs.YtpdhjfnddnoghaaDoor
