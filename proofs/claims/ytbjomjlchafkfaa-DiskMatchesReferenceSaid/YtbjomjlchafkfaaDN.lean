/- The law's contents: what all sectors of a disk that is on hold.
   Conditions: the disk lies in memory as DiskAt says and is on. -/
import Derived.Test.YtbjomjlchafkfaaDL
namespace Go.Proofs.Ytbjomjlchafkfaa
open Go.RowKit Go.Lib
set_option linter.unusedVariables false

theorem Try.infoStr : (Try.prog.info? 9).map (fun i => (i.zero, i.size, i.bytes)) = some (some (.string ByteArray.empty), 1, 16) := by kernel_rfl

/-- The contents, in memory that the call has made. -/
def Conts (w : World) (xs : List ByteArray) (e : Ending) (w' : World) : Prop := ∃ v, e = .returned (.tuple #[v, .bool true]) ∧ w'.ownsRow w.heap.size 9 1 v xs.length (strs xs) ∧ Below w.heap.size w w'

theorem DS.all_length (st : DS) : st.all.length = st.sect.length := settle_length _ _
theorem DS.all_64 {st : DS} (h : st.WF) : ∀ x ∈ st.all, x.size = 64 := settle_64 _ _ h.s64 fun x hx => (h.q64 x hx).2

theorem read_on {st : DS} (ho : st.off = false) (k : Nat) (hk : k < st.sect.length) : st.read k = (st.all[k]'(by rw [DS.all_length]; exact hk), 0) := by
  unfold DS.read DS.valid
  rw [ho, if_neg (by simp), if_pos (by simp; omega)]
  rw [Int.toNat_natCast, List.getD_eq_getElem?_getD, List.getElem?_eq_getElem (by rw [DS.all_length]; exact hk)]
  rfl

set_option maxHeartbeats 400000 in
theorem contents_calls {w : World} {F : Nat → Prop} {p : Nat} {st : DS} (h : DiskAt w F p st) (hql : st.queue.length ≤ 1000000) (ho : st.off = false) (n : Nat) (hn : n = st.sect.length) :
    Calls Try.prog 22 #[.pointer (some ⟨p, 0, none⟩), .int .i64 n] w (Conts w st.all) := by
  have hn2 : n ≤ 4000 := by rw [hn]; exact h.wf.n2
  have HN := Lib.hid hn
  have HO := Lib.hid ho
  clear hn ho
  obtain ⟨i0, hi, hz0, hzz1, hz2⟩ := info_parts Try.infoStr
  go_enter Try.func22, Try.ntmps22
  go_wp2
  go_loopw [6, 7] (fun v i wr => ∃ k : Nat, k ≤ n ∧ i = .int .i64 k ∧ wr.ownsRow w.heap.size 9 1 v k (strs (st.all.take k)) ∧ Below w.heap.size w wr) (fun _ i _ => n - (intOf i).toNat)
  case atStart => exact ⟨0, Nat.zero_le _, rfl, World.ownsRow_nil _ _ _ _, Below.refl _ _⟩
  case round =>
    obtain ⟨k, hk, rfl, hown, hb⟩ := hrel
    have HOWN := Lib.hid hown
    have HB := Lib.hid hb
    clear hown hb
    by_cases hlt : k < n
    · have hks : k < st.sect.length := by rw [← HN.out]; exact hlt
      have hka : k < st.all.length := by rw [DS.all_length]; exact hks
      have HR := Lib.hid (read_on HO.out k hks)
      have h64 : st.all[k].size = 64 := DS.all_64 h.wf _ (List.getElem_mem hka)
      have f1 : ((st.all[k].size : Int) == 64) = true := by simp [h64]
      have f2 : ((st.all[k].size : Int) != 64) = false := by simp [h64]
      clear h64
      have hd : DiskAt (wr) F p st := h.below HB.out
      go_wp2_with fail
      refine (read_calls hd hql k).mono ?_
      rw [HR.out]
      rintro e w1 ⟨rfl, hb1⟩
      have HB1 := Lib.hid hb1
      have hsz : w.heap.size ≤ w1.heap.size := Nat.le_trans HB.out.size hb1.size
      have HOWN1 := Lib.hid (own_same (w' := w1) HOWN.out fun j hj => hb1.block j (HOWN.out.lt j hj).2)
      have HBB := Lib.hid (HB.out.trans (hb1.mono HB.out.size))
      clear hb1
      go_wp2_with (at_builtin; refine wpList_append_own_at _ rfl _ _ 39 rfl w.heap.size 9 i0 _ 1 16 Try.underlying39 hi hz0 hzz1 hz2 rfl (by omega) _ k (strs (st.all.take k)) rfl (HOWN1.out.alloc _) ⟨w1.heap.size, 0, none⟩ 1 1 [.string st.all[k]] rfl rfl (cell_one_new _ _ _) (by intro u hu; simp at hu; subst hu; rfl) (by simp only [maxLen]; omega) (by omega) (by simp; omega) ?_; intro v2 w2 hown2 hg2 _ _)
      have HO2 : Hid (w2.ownsRow w.heap.size 9 1 v2 (k + 1) (strs (st.all.take (k + 1)))) := by
        show World.ownsRow _ _ _ _ _ _ _
        have e : strs (st.all.take (k + 1)) = strs (st.all.take k) ++ [.string st.all[k]] := by
          unfold strs; rw [List.take_succ_eq_append_getElem hka, List.map_append]; rfl
        rw [e]; exact hown2
      have HB2 := Lib.hid ((HBB.out.alloc hsz _).grown hg2 (by simp; omega) fun j hj => (HOWN1.out.lt j hj).1)
      clear hown2 hg2
      go_wp2_with fail
      go_roundw
      case rel => exact ⟨k + 1, by omega, by go_num, HO2.out, HB2.out⟩
      case measure => simp [intOf]; omega
    · obtain rfl : k = n := by omega
      have HE : Hid (st.all.take k = st.all ∧ k = st.all.length) := by
        show _ ∧ _
        rw [List.take_of_length_le (by rw [DS.all_length, ← HN.out]; omega), DS.all_length]
        exact ⟨rfl, HN.out⟩
      go_wp2_with fail
      go_ret2
      refine ⟨_, rfl, ?_, HB.out⟩
      have := HOWN.out
      rw [HE.out.1] at this
      rw [← HE.out.2]
      exact this
end Go.Proofs.Ytbjomjlchafkfaa
