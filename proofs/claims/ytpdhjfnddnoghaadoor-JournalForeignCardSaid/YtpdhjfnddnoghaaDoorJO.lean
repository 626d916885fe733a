/- The journal's write.
   Conditions: the disk, the journal's first cell and the texts lie in memory; the texts and the journal are not the disk's. -/
import Derived.Test.YtpdhjfnddnoghaaDoorJN
import Derived.Test.YtpdhjfnddnoghaaDoorDG
import Derived.Test.YtpdhjfnddnoghaaDoorDF
namespace Go.Proofs.YtpdhjfnddnoghaaDoor
open Go.RowKit Go.Lib
set_option linter.unusedVariables false
set_option linter.unusedSimpArgs false

def DS.writesFrom (st : DS) (p : Int) : List ByteArray → DS × Int
  | [] => (st, 0)
  | x :: r => if (st.write p x).2 = 0 then DS.writesFrom (st.write p x).1 (p + 1) r else st.write p x
def DS.writeM (st : DS) (p : Int) (xs : List ByteArray) : DS × Int :=
  if (st.writesFrom p xs).2 = 0 then (st.writesFrom p xs).1.sync else st.writesFrom p xs
/-- texts apart from the disk's blocks -/
def TextsOut (w : World) (F : Nat → Prop) (v : Value) (xs : List ByteArray) : Prop :=
  ∃ A cap, v = .slice A xs.length cap ∧ (0 < xs.length → ∃ b off, A = some ⟨b, off, none⟩ ∧ b < w.heap.size ∧ ¬ F b ∧ ∀ k (h : k < xs.length), w.cell? ⟨b, off + k, none⟩ = some (.string xs[k]))
theorem DS.write_q (st : DS) (s : Int) (t : ByteArray) : (st.write s t).1.queue.length ≤ st.queue.length + 1 := by
  unfold DS.write
  split
  · simp
  · split
    · simp
    · split
      · simp
      · have hc : ∀ st : DS, st.count.1.queue.length ≤ st.queue.length := by
          intro st
          unfold DS.count
          split
          · exact Nat.le_refl _
          · split
            · exact Nat.le_refl _
            · unfold DS.fail; split <;> simp
        exact Nat.le_trans (hc _) (by simp)
/-- how far the loop is -/
structure WSt (w : World) (F : Nat → Prop) (d : Nat) (st : DS) (p : Int) (xs : List ByteArray) (k : Nat) (st' : DS) (F' : Nat → Prop) (wr : World) : Prop where
  eq : st.writesFrom p xs = st'.writesFrom (p + k) (xs.drop k)
  disk : DiskAt wr F' d st'
  up : Upd F w wr
  old : ∀ i, F' i → F i ∨ w.heap.size ≤ i
  q : st'.queue.length ≤ st.queue.length + k
set_option maxRecDepth 100000 in
set_option maxHeartbeats 4000000 in
theorem jwrite_calls {w : World} {F : Nat → Prop} {d : Nat} {st : DS} (hd : DiskAt w F d st) (j : Nat) (hj : w.cell? ⟨j, 0, none⟩ = some (.pointer (some ⟨d, 0, none⟩))) (hjF : ¬ F j)
    (p : Int) (hp : 0 ≤ p ∧ p ≤ 1000000) (v : Value) (xs : List ByteArray) (hv : TextsOut w F v xs) (hxl : xs.length ≤ 1000) (hql : st.queue.length ≤ 100000) :
    Calls Tryd.prog 36 #[.pointer (some ⟨j, 0, none⟩), .int .i64 p, v] w (Turns w F d (st.writeM p xs).1 (.int .i64 (st.writeM p xs).2)) := by
  obtain ⟨A, cap, rfl, hA⟩ := hv
  have hjl : j < w.heap.size := World.block_lt_of_cell? w _ hj
  have H0 : Hid (WSt w F d st p xs 0 st F w) := ⟨by simp, hd, Upd.refl _ _, fun i hi => .inl hi, by omega⟩
  have HA := Lib.hid hA
  have HJ := Lib.hid hj
  obtain ⟨p0, p1⟩ := hp
  clear hA hd hj
  go_enter Tryd.func36, Tryd.ntmps36
  go_wp2_with fail
  go_loopw [12] (fun iv wr => ∃ (k : Nat) (st' : DS) (F' : Nat → Prop), k ≤ xs.length ∧ iv = .int .i64 k ∧ WSt w F d st p xs k st' F' wr) (fun iv _ => xs.length - (Go.RowKit.intOf iv).toNat)
  case atStart => exact ⟨0, st, F, Nat.zero_le _, rfl, H0.out⟩
  case round =>
    obtain ⟨k, st', F', hk, rfl, hw⟩ := hrel
    have HW := Lib.hid hw
    have hq := hw.q
    have hcj : wr.cell? ⟨j, 0, none⟩ = some (.pointer (some ⟨d, 0, none⟩)) := (hw.up.cell (p := ⟨j, 0, none⟩) hjl hjF).trans HJ.out
    clear hw H0
    by_cases hlt : k < xs.length
    · obtain ⟨b, off, hAe, hbl, hbF, hc⟩ := HA.out (by omega)
      subst hAe
      have x0 : wr.cell? ⟨b, off + k, none⟩ = some (.string xs[k]) := (HW.out.up.cell (p := ⟨b, off + k, none⟩) hbl hbF).trans (hc k hlt)
      clear hc
      have hlt2 : (k : Int) < (xs.length : Int) := by omega
      have HD : Hid (xs.drop k = xs[k] :: xs.drop (k + 1)) := by show _ = _; rw [List.getElem_cons_drop]
      have hwc := write_calls HW.out.disk (by omega) (p + (k : Int)) xs[k]
      have hwq := DS.write_q st' (p + (k : Int)) xs[k]
      obtain ⟨x, hx⟩ : ∃ x, xs[k] = x := ⟨_, rfl⟩
      rw [hx] at x0 HD hwc hwq
      clear hx
      obtain ⟨s2, hs2⟩ : ∃ s2, (st'.write (p + (k : Int)) x).1 = s2 := ⟨_, rfl⟩
      obtain ⟨er, her⟩ : ∃ er, (st'.write (p + (k : Int)) x).2 = er := ⟨_, rfl⟩
      have HWF : Hid (st.writesFrom p xs = if er = 0 then s2.writesFrom (p + ((k + 1 : Nat) : Int)) (xs.drop (k + 1)) else (s2, er)) := by
        show _ = _
        rw [HW.out.eq, HD.out, DS.writesFrom, her, hs2]
        split
        · rw [show p + (k : Int) + 1 = p + ((k + 1 : Nat) : Int) by omega]
        · exact Prod.ext hs2 her
      rw [hs2] at hwc hwq
      rw [her] at hwc
      clear hs2 her
      go_wp2_with fail
      refine hwc.mono ?_
      clear hwc
      rintro e w1 ⟨rfl, F1, hd1, hu1, hF1⟩
      have HU1 : Hid (Upd F w w1) := HW.out.up.trans hu1 HW.out.old
      have HF1 : Hid (∀ i, F1 i → F i ∨ w.heap.size ≤ i) := by
        show ∀ i, _
        intro i hi
        rcases hF1 i hi with h | h
        · exact HW.out.old i h
        · exact .inr (Nat.le_trans HW.out.up.size h)
      have HD1 := Lib.hid hd1
      clear hu1 hF1 hd1
      by_cases he : er = 0
      · subst he
        have HN : Hid (WSt w F d st p xs (k + 1) s2 F1 w1) := ⟨HWF.out.trans (if_pos rfl), HD1.out, HU1.out, HF1.out, by omega⟩
        go_wp2_with fail
        go_roundw
        case rel => exact ⟨k + 1, s2, F1, by omega, by go_num, HN.out⟩
        case measure => simp [Go.RowKit.intOf]; omega
      · have hb1 : (er == 0) = false := by simp [he]
        have hb2 : (er != 0) = true := by simp [he]
        have HM : Hid (st.writeM p xs = (s2, er)) := by
          show _ = _
          have h1 := HWF.out.trans (if_neg he)
          unfold DS.writeM
          rw [h1, if_neg he]
        go_wp2_with fail
        go_ret
        rw [HM.out]
        exact ⟨rfl, F1, HD1.out, HU1.out, HF1.out⟩
    · have HM : Hid (st.writeM p xs = st'.sync) := by
        show _ = _
        have h1 : st.writesFrom p xs = (st', 0) := by rw [HW.out.eq, List.drop_of_length_le (by omega)]; rfl
        unfold DS.writeM
        rw [h1]
        rfl
      have hsy := sync_calls HW.out.disk (by omega)
      go_wp2_with fail
      refine hsy.mono ?_
      clear hsy
      rintro e w1 ⟨rfl, F1, hd1, hu1, hF1⟩
      have HT : Hid (Turns w F d st'.sync.1 (.int .i64 st'.sync.2) (.returned (.int .i64 st'.sync.2)) w1) := Turns.after HW.out.up HW.out.old ⟨rfl, F1, hd1, hu1, hF1⟩
      clear hu1 hF1 hd1
      generalize st'.sync = sy at HM HT ⊢
      obtain ⟨s2, er⟩ := sy
      go_wp2_with fail
      go_ret
      rw [HM.out]
      exact HT.out
end Go.Proofs.YtpdhjfnddnoghaaDoor
