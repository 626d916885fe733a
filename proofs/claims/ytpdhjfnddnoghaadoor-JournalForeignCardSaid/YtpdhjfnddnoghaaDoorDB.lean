/- The disk's settle: it lays pending writes into the sectors, one after the other.
   Conditions: the disk and the list of writes lie in memory as Cells and ownsRow say. -/
import Derived.Test.YtpdhjfnddnoghaaDoorDA
namespace Go.Proofs.YtpdhjfnddnoghaaDoor
open Go.RowKit Go.Lib
set_option linter.unusedVariables false

/-- the facts on a disk's struct that a walk wants -/
theorem Cells.p4 {w : World} {p s : Nat} {qv : Value} {av : Option Nat} {st : DS} (h : Cells w p s qv av st) :
    w.cell? ⟨p, 0, none⟩ = some (.slice (some ⟨s, 0, none⟩) (64 * st.sect.length) (64 * st.sect.length)) ∧ w.cell? ⟨p, 1, none⟩ = some qv ∧ w.cell? ⟨p, 2, none⟩ = some (.bool st.off) ∧ w.cell? ⟨p, 3, none⟩ = some (ptrTo av) ∧ (∀ o, w.frozen? ⟨p, o, none⟩ = false) ∧ p < w.heap.size := by
  refine ⟨?_, ?_, ?_, ?_, fun o => free_blk h.dp o, blk_lt h.dp⟩ <;> rw [cell_blk h.dp] <;> rfl
/-- a disk without pending writes, disarmed -/
theorem Cells.blank {w w1 : World} {p s : Nat} {qv : Value} {av : Option Nat} {st : DS} (h : Cells w p s qv av st) (o : Bool)
    (hp : w1.heap[p]? = some (.cells #[.slice (some ⟨s, 0, none⟩) (64 * st.sect.length) (64 * st.sect.length), .slice none 0 0, .bool o, .pointer none] 55 (0, 0)))
    (hs : w1.heap[s]? = w.heap[s]?) : Cells w1 p s (.slice none 0 0) none ⟨st.sect, [], o, none⟩ :=
  ⟨hp, by rw [hs]; exact h.ds, World.ownsRow_nil _ _ _ _, True.intro, ⟨h.wf.n1, h.wf.n2, h.wf.s64, fun x hx => by simp at hx, fun a b c hh => by simp at hh⟩⟩

theorem qCells_at (q : List (Nat × ByteArray)) (k : Nat) (hk : k < q.length) (j : Nat) (hj : j < 3) : (qCells q)[k * 3 + j]? = (qCell q[k])[j]? := by
  induction q generalizing k with
  | nil => simp at hk
  | cons x q ih =>
    have e : qCells (x :: q) = qCell x ++ qCells q := rfl
    have e3 : (qCell x).length = 3 := rfl
    rw [e]
    cases k with
    | zero => rw [List.getElem?_append_left (by omega)]; simp
    | succ k =>
      rw [List.getElem?_append_right (by omega), e3, show (k + 1) * 3 + j - 3 = k * 3 + j from by omega, ih k (by simpa using hk)]
      rfl
/-- the three cells of a pending write -/
theorem pend_cells {w : World} {g n cap : Nat} {q : List (Nat × ByteArray)} (h : w.ownsRow 0 60 3 (.slice (some ⟨g, 0, none⟩) n cap) n (qCells q)) (k : Nat) (hk : k < q.length) :
    w.cell? ⟨g, k * 3, none⟩ = some (.int .i64 ((q[k].1 : Int) * 64)) ∧ w.cell? ⟨g, k * 3 + 1, none⟩ = some (.int .i64 (((q[k].1 : Int) + 1) * 64)) ∧ w.cell? ⟨g, k * 3 + 2, none⟩ = some (.string q[k].2) := by
  have hl := h.1
  rw [qCells_length] at hl
  have e : q.length = n := by omega
  refine ⟨?_, ?_, ?_⟩
  · rw [h.cellAt _ (by omega), show k * 3 = k * 3 + 0 from rfl, qCells_at q k hk 0 (by omega)]; rfl
  · rw [h.cellAt _ (by omega), qCells_at q k hk 1 (by omega)]; rfl
  · rw [h.cellAt _ (by omega), qCells_at q k hk 2 (by omega)]; rfl

theorem settle_step (s : List ByteArray) (q : List (Nat × ByteArray)) (k : Nat) (hk : k < q.length) (h : tearAt (settle s (q.take k)) q[k] 64 = (settle s (q.take k)).set q[k].1 q[k].2) :
    tearAt (settle s (q.take k)) (q[k].1, q[k].2) 64 = settle s (q.take (k + 1)) := by
  rw [List.take_succ_eq_append_getElem hk, settle_append]
  exact h

set_option maxHeartbeats 400000 in
theorem settle_calls {w : World} {p s : Nat} {qv : Value} {av : Option Nat} {st : DS} (h : Cells w p s qv av st) (A : Option Addr) (m cap : Nat) (q : List (Nat × ByteArray)) (hqm : q.length = m) (hq : ∀ x ∈ q, x.1 < st.sect.length ∧ x.2.size = 64)
    (hl : w.ownsRow 0 60 3 (.slice A m cap) m (qCells q)) (hqn : m ≤ 1000000000) :
    Calls Tryd.prog 25 #[.pointer (some ⟨p, 0, none⟩), .slice A m cap] w (SetPost w p s qv av { st with sect := settle st.sect q }) := by
  subst hqm
  go_enter Tryd.func25, Tryd.ntmps25
  go_wp2
  go_loopw [8] (fun i wr => ∃ k : Nat, k ≤ q.length ∧ i = .int .i64 k ∧ Cells wr p s qv av { st with sect := settle st.sect (q.take k) } ∧ w.grownBy wr (some s)) (fun i _ => q.length - (intOf i).toNat)
  case atStart => exact ⟨0, Nat.zero_le _, rfl, by simpa [settle] using h, World.grownBy.refl _ _⟩
  case round =>
    obtain ⟨k, hk, rfl, hc, hg⟩ := hrel
    by_cases hlt : k < q.length
    · have hl' : wr.ownsRow 0 60 3 (.slice A q.length cap) q.length (qCells q) := own_same hl fun j hj => hg.block j (hl.lt j hj).2 (by
        obtain ⟨c, hc'⟩ := own_type hl hj
        have := ne_of_type hc' h.ds (by decide)
        exact fun e => this (by injection e))
      obtain ⟨g, cap', e, hgl, hgs⟩ := hl'.form (by omega)
      injection e with e1 e2 e3
      subst e1 e3
      obtain ⟨x0, x1, x2⟩ := pend_cells hl' k hlt
      clear e2
      have hx := hq q[k] (List.getElem_mem hlt)
      have hx1 : q[k].1 < (settle st.sect (q.take k)).length := by rw [settle_length]; exact hx.1
      have hx3 : q[k].2.data.toList = q[k].2.data.toList.take 64 := by rw [List.take_of_length_le]; rw [bsize, hx.2]; omega
      have HE := Lib.hid (settle_step st.sect q k hlt (tearAt_all (settle st.sect (q.take k)) hc.wf.s64 q[k] hx1 hx.2))
      have HX := Lib.hid hx3
      have HS := Lib.hid hx.2
      have hx4 := hx1
      clear hx3 hx hx1
      go_wp2_with fail
      refine (set_calls (hc.below ((Below.refl _ _).alloc (Nat.le_refl _) _)) q[k].1 hx4 q[k].2 q[k].2 HS.out 64 (by omega) HX.out _ _ rfl rfl).mono ?_
      rintro e w1 ⟨rfl, hc1, hg1⟩
      have HC := Lib.hid hc1
      have HG := Lib.hid (World.grownBy.trans hg (World.grownBy.trans (World.grownBy_alloc wr _ _) hg1))
      clear hc1 hg1
      go_wp2
      go_roundw
      case rel => exact ⟨k + 1, by omega, by go_num, by have := HC.out; rw [HE.out] at this; exact this, HG.out⟩
      case measure => simp [intOf]; omega
    · obtain rfl : k = q.length := by omega
      rw [List.take_of_length_le (Nat.le_refl _)] at hc
      go_wp2
      go_end0
      exact ⟨rfl, hc, hg⟩
end Go.Proofs.YtpdhjfnddnoghaaDoor
