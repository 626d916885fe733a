/- The reference's disk: New, Rot, Raw.
   Conditions: it lies in memory as RefAt says. -/
import Derived.Test.YtbjomjlchafkfaaSD
import Derived.Lib.AppendStr
namespace Go.Proofs.Ytbjomjlchafkfaa
open Go.RowKit Go.Lib
set_option linter.unusedVariables false

/-- A new disk of the reference, in memory that the call has made. -/
def RFresh (w : World) (n : Nat) (e : Ending) (w' : World) : Prop := ∃ p F, e = .returned (.pointer (some ⟨p, 0, none⟩)) ∧ RefAt w' F p (DS.new n) ∧ Below w.heap.size w w' ∧ ∀ k, F k → w.heap.size ≤ k

/-- the struct in the making: k sectors are there -/
structure Making (w0 w : World) (p : Nat) (sv : Value) (k : Nat) : Prop where
  dp : w.heap[p]? = some (.cells #[sv, .slice none 0 0, .bool true, .bool false, .int .i64 0, .int .i64 0, .int .i64 0] 63 (0, 0))
  ds : w.ownsRow w0.heap.size 9 1 sv k (strs (List.replicate k zeroB))
  be : Below w0.heap.size w0 w
  lo : w0.heap.size ≤ p
theorem Making.push {w0 w w2 : World} {p g cap k : Nat} {sv : Value} {o : Obj} (h : Making w0 w p sv k)
    (hown : w2.ownsRow w0.heap.size 9 1 (.slice (some ⟨g, 0, none⟩) (k + 1) cap) (k + 1) (strs (List.replicate k zeroB) ++ [.string zeroB])) (hg : (w.alloc o).grownBy w2 sv.ownBlock) :
    Making w0 (w2.setCell ⟨p, 0, none⟩ (.slice (some ⟨g, 0, none⟩) (k + 1) cap)) p (.slice (some ⟨g, 0, none⟩) (k + 1) cap) (k + 1) := by
  have hp2 : w2.heap[p]? = w.heap[p]? := by
    have hlt := blk_lt h.dp
    rw [hg.block p (by simp; omega) ?_]
    · exact Below.heap_alloc _ _ _ hlt
    · intro e
      obtain ⟨c', hc'⟩ := own_type h.ds e.symm
      exact ne_of_type h.dp hc' (by decide) rfl
  have hset := Go.heap_setCell_same _ _ 0 _ _ (.slice (some ⟨g, 0, none⟩) (k + 1) cap) (hp2.trans h.dp)
  have hgp : g ≠ p := by
    obtain ⟨c, hcc⟩ := own_type hown (k := g) rfl
    exact ne_of_type hcc (hp2.trans h.dp) (by decide)
  refine ⟨hset, ?_, ?_, h.lo⟩
  · have e : strs (List.replicate (k + 1) zeroB) = strs (List.replicate k zeroB) ++ [.string zeroB] := by simp [strs, List.replicate_succ']
    rw [e]
    exact own_same hown fun j hj => Below.heap_setCell _ _ _ _ (by
      have e : g = j := by simpa [Value.ownBlock] using hj
      exact e ▸ hgp)
  · have hb := (h.be.alloc h.be.size o).grown hg (by have := h.be.size; simp; omega) fun j hj => (h.ds.lt j hj).1
    exact hb.setCell (by exact h.lo) _

theorem rnew_no (w : World) (n : Int) (hn : n < 1 ∨ 4000 < n) : Calls Try.prog 15 #[.int .i64 n] w fun e w' => e = .returned (.pointer none) ∧ w = w' := by
  by_cases h1 : n < 1
  · go_enter Try.func15, Try.ntmps15
    go_wp2
    go_ret
    exact ⟨rfl, rfl⟩
  · have h2 : 4000 < n := by omega
    clear hn
    go_enter Try.func15, Try.ntmps15
    go_wp2
    go_ret
    exact ⟨rfl, rfl⟩

theorem own_mono0 {w : World} {base : Nat} {e : TypeId} {size n : Nat} {v : Value} {xs : List Value} (h : w.ownsRow base e size v n xs) : w.ownsRow 0 e size v n xs := by
  refine ⟨h.1, ?_⟩
  rcases h.2 with h2 | ⟨g, cap, cur, hv, hg, r⟩
  · exact .inl h2
  · exact .inr ⟨g, cap, cur, hv, Nat.zero_le _, r⟩
set_option maxHeartbeats 400000 in
theorem rnew_ok (w : World) (n : Nat) (h1 : 1 ≤ n) (h2 : n ≤ 4000) : Calls Try.prog 15 #[.int .i64 n] w (RFresh w n) := by
  obtain ⟨i0, hi, hz0, hzz1, hz2⟩ := info_parts Try.infoStr
  go_enter Try.func15, Try.ntmps15
  go_wp2_with fail
  refine (zero_calls _).mono ?_
  rintro e w1 ⟨rfl, hw⟩
  subst hw
  have hM : Making w (w.alloc (.cells #[.slice none 0 0, .slice none 0 0, .bool true, .bool false, .int .i64 0, .int .i64 0, .int .i64 0] 63)) w.heap.size (.slice none 0 0) 0 :=
    ⟨heap_alloc_new _ _, World.ownsRow_nil _ _ _ _, (Below.refl _ _).alloc (Nat.le_refl _) _, Nat.le_refl _⟩
  generalize w.alloc (.cells #[.slice none 0 0, .slice none 0 0, .bool true, .bool false, .int .i64 0, .int .i64 0, .int .i64 0] 63) = wA at hM ⊢
  obtain ⟨p, hp⟩ : ∃ p, w.heap.size = p := ⟨_, rfl⟩
  have HM := Lib.hid hM
  clear hM
  rw [hp] at HM
  simp only [hp]
  have HP := Lib.hid hp
  clear hp
  go_wp2_with fail
  go_loopw [5] (fun i wr => ∃ (k : Nat) (sv : Value), k ≤ n ∧ i = .int .i64 k ∧ Making w wr p sv k) (fun i _ => n - (intOf i).toNat)
  case atStart => exact ⟨0, _, Nat.zero_le _, rfl, HM.out⟩
  case round =>
    obtain ⟨k, sv, hk, rfl, hm⟩ := hrel
    have c0 := cell_blk hm.dp 0
    have c7 := free_blk hm.dp
    have c8 := blk_lt hm.dp
    have HK := Lib.hid hm
    clear hm
    simp only [List.getElem?_toArray, List.getElem?_cons_zero] at c0
    by_cases hlt : k < n
    · go_wp2_with (at_builtin; refine wpList_append_lies _ rfl _ _ 39 rfl w.heap.size 9 i0 _ 1 16 Try.underlying39 hi hz0 hzz1 hz2 rfl (by omega) sv k (strs (List.replicate k zeroB)) rfl (HK.out.ds.alloc _) ⟨wr.heap.size, 0, none⟩ 1 1 [.string zeroB] rfl rfl (World.news_of_block (heap_alloc_new wr _)) (by intro u hu; simp at hu; subst hu; rfl) (by omega) (by simp only [maxLen]; omega) (by omega) (by have := HK.out.be.size; simp; omega) (wr.heap.size + 1) (by simp) ?_; intro g cap w2 hown hg hor hlt2; have hmk := HK.out.push hown hg; have hp2 : w2.heap[p]? = wr.heap[p]? := (by
        have := hg.block p (by simp; omega) (by intro e; obtain ⟨c', hc'⟩ := own_type HK.out.ds e.symm; exact ne_of_type HK.out.dp hc' (by decide) rfl)
        exact this.trans (Below.heap_alloc _ _ _ c8)); have u0 := hp2.trans HK.out.dp; have u1 := cell_blk u0 0; have u2 := free_blk u0; have u3 := blk_lt u0; have HMK := Lib.hid hmk; clear hmk hown hg hor u0 hp2)
      go_roundw
      case rel => exact ⟨k + 1, _, by omega, by go_num, HMK.out⟩
      case measure => simp [intOf]; omega
    · obtain rfl : k = n := by omega
      go_wp2_with fail
      go_ret
      have hm := HK.out
      have hl : (DS.new k).sect.length = k := by simp [DS.new]
      refine ⟨p, fun j => j = p ∨ sv.ownBlock = some j, rfl, ⟨sv, _, 0, 0, 0, ⟨hm.dp, ?_, World.ownsRow_nil _ _ _ _, fun t ht => by simp [DS.new] at ht, DS.WF.new k h1 h2⟩, .inl rfl, fun j hj => .inr hj, fun j hj => by simp [Value.ownBlock] at hj, fun j hj => ?_⟩, hm.be, fun j hj => ?_⟩
      · rw [hl]; exact own_mono0 hm.ds
      · rcases hj with rfl | hj
        · exact c8
        · exact (hm.ds.lt j hj).2
      · rcases hj with rfl | hj
        · exact hm.lo
        · exact (hm.ds.lt j hj).1
end Go.Proofs.Ytbjomjlchafkfaa
