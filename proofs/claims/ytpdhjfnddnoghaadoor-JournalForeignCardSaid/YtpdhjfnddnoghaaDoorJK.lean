/- Texts that a slice holds; the journal's text; the reference's Same.
   Conditions: the texts lie in memory as TextsAt says. -/
import Derived.Test.YtpdhjfnddnoghaaDoorJJ
namespace Go.Proofs.YtpdhjfnddnoghaaDoor
open Go.RowKit Go.Lib
set_option linter.unusedVariables false
set_option linter.unusedSimpArgs false

/-- Texts that a slice holds, from whatever place on. -/
def TextsAt (w : World) (v : Value) (xs : List ByteArray) : Prop :=
  ∃ A cap, v = .slice A xs.length cap ∧ (0 < xs.length → ∃ b off, A = some ⟨b, off, none⟩ ∧ b < w.heap.size ∧ ∀ k (h : k < xs.length), w.cell? ⟨b, off + k, none⟩ = some (.string xs[k]))
theorem TextsAt.of_own {w : World} {base n : Nat} {v : Value} {xs : List ByteArray} (h : w.ownsRow base 9 1 v n (strs xs)) : TextsAt w v xs := by
  have hl : xs.length = n := by have := h.1; simp [strs] at this; exact this
  subst hl
  rcases h.2 with ⟨rfl, h0⟩ | ⟨g, cap, cur, rfl, _⟩
  · refine ⟨none, 0, by rw [h0], fun hp => ?_⟩
    omega
  · refine ⟨_, cap, rfl, fun hp => ⟨g, 0, rfl, (h.lt g rfl).2, fun k hk => ?_⟩⟩
    rw [Nat.zero_add, h.cellAt k (by omega)]
    simp [strs, hk]
theorem TextsAt.below {w w' : World} {v : Value} {xs : List ByteArray} (h : TextsAt w v xs) (hb : Below w.heap.size w w') : TextsAt w' v xs := by
  obtain ⟨A, cap, rfl, h⟩ := h
  refine ⟨A, cap, rfl, fun hp => ?_⟩
  obtain ⟨b, off, rfl, hlt, hc⟩ := h hp
  exact ⟨b, off, rfl, Nat.lt_of_lt_of_le hlt hb.size, fun k hk => (hb.cell (p := ⟨b, off + k, none⟩) hlt).trans (hc k hk)⟩
def recL (x : ByteArray) : List UInt8 := decDigits x.size ++ 58 :: x.data.toList
def textL (xs : List ByteArray) : List UInt8 := xs.flatMap recL
theorem textL_succ (xs : List ByteArray) (k : Nat) (h : k < xs.length) : textL (xs.take (k + 1)) = textL (xs.take k) ++ recL xs[k] := by
  unfold textL
  rw [List.take_succ_eq_append_getElem h, List.flatMap_append]
  simp
/-- the texts are of moderate size -/
def Small (xs : List ByteArray) : Prop := xs.length ≤ 1000 ∧ ∀ x ∈ xs, x.size ≤ 1000000
theorem textL_len {xs : List ByteArray} (h : Small xs) : ∀ k, k ≤ xs.length → (textL (xs.take k)).length ≤ 1000100 * k := by
  intro k
  induction k with
  | zero => intro _; simp [textL]
  | succ k ih =>
    intro hk
    rw [textL_succ xs k (by omega), List.length_append]
    have h1 := ih (by omega)
    have h2 := h.2 _ (List.getElem_mem (show k < xs.length by omega))
    have h3 := (dec_len xs[k].size (by omega)).2
    have h4 := bsize xs[k]
    unfold recL
    rw [List.length_append, List.length_cons]
    omega
theorem strCells_bytes (s : ByteArray) : Lib.strCells s = Lib.byteCells s.data.toList := rfl
set_option maxRecDepth 100000 in
set_option maxHeartbeats 4000000 in
theorem jtext_calls (w : World) (hl : LaidJ w) (v : Value) (xs : List ByteArray) (hv : TextsAt w v xs) (hs : Small xs) :
    Calls Tryd.prog 41 #[v] w fun e w' => e = .returned (.string (bytesB (textL xs))) ∧ Below w.heap.size w w' := by
  obtain ⟨A, cap, rfl, hA⟩ := hv
  have hl1000 := hs.1
  have HA := Lib.hid hA
  have HL := Lib.hid hl
  have HS := Lib.hid hs
  clear hA hl hs
  go_enter Tryd.func41, Tryd.ntmps41
  go_wp2_with fail
  have hne : (67 : TypeId) ≠ 5 := by decide
  have h0 : Hid (Lib.IsBuilder 67 5 w.heap.size w.heap.size (Lib.byteCells (textL (xs.take 0))) (w.alloc (.cells #[.pointer none, .slice none 0 0] 67)) ∧ Below w.heap.size w (w.alloc (.cells #[.pointer none, .slice none 0 0] 67))) := by
    show _ ∧ _
    exact ⟨.inl ⟨Nat.le_refl _, _, heap_alloc_new _ _, World.ownsRow_nil _ _ _ _, by simp [Value.ownBlock]⟩, (Below.refl _ _).alloc (Nat.le_refl _) _⟩
  have hsz : w.heap.size < (w.alloc (.cells #[.pointer none, .slice none 0 0] 67)).heap.size := by simp
  generalize w.alloc (.cells #[.pointer none, .slice none 0 0] 67) = W at h0 hsz ⊢
  obtain ⟨B, hB⟩ : ∃ B, w.heap.size = B := ⟨_, rfl⟩
  have HBB := Lib.hid hB
  simp only [hB] at h0 hsz ⊢
  clear hB hsz
  go_loopw [8] (fun iv wr => ∃ k : Nat, k ≤ xs.length ∧ iv = .int .i64 k ∧ Lib.IsBuilder 67 5 B B (Lib.byteCells (textL (xs.take k))) wr ∧ Below B w wr) (fun iv _ => xs.length - (Go.RowKit.intOf iv).toNat)
  case atStart => exact ⟨0, Nat.zero_le _, rfl, h0.out.1, h0.out.2⟩
  case round =>
    obtain ⟨k, hk, rfl, hbu, hbe⟩ := hrel
    have HBU := Lib.hid hbu
    have HBE := Lib.hid hbe
    have hsB : B ≤ wr.heap.size := by rw [← HBB.out]; exact hbe.size
    have hbw : Below w.heap.size w wr := by rw [HBB.out]; exact hbe
    have HBW := Lib.hid hbw
    clear hbu hbe h0 hbw
    by_cases hlt : k < xs.length
    · obtain ⟨b, off, hAe, hbl, hc⟩ := HA.out (by omega)
      subst hAe
      have x0 := (HBW.out.cell (p := ⟨b, off + k, none⟩) hbl).trans (hc k hlt)
      clear hc
      have hlt2 : (k : Int) < (xs.length : Int) := by omega
      have hxs : xs[k].size ≤ 1000000 := HS.out.2 _ (List.getElem_mem hlt)
      have hit := Tryd.strconv_Itoa (xs[k].size : Int) (by omega) (by omega) wr (HL.out.below HBW.out).tab
      rw [itoa_nonneg] at hit
      have htl := textL_len HS.out k hk
      have hdl := (dec_len xs[k].size (by omega)).2
      have HREC : Hid ((⟨(decDigits xs[k].size).toArray⟩ : ByteArray) ++ ⟨#[58]⟩ ++ xs[k] = bytesB (recL xs[k])) := by
        show _ = _
        apply ByteArray.ext
        simp [bytesB, recL]
      have HNX := Lib.hid (textL_succ xs k hlt)
      obtain ⟨x, hx⟩ : ∃ x, xs[k] = x := ⟨_, rfl⟩
      rw [hx] at x0 hxs hit HREC HNX hdl
      clear hx
      obtain ⟨ds, hds⟩ : ∃ ds : ByteArray, (⟨(decDigits x.size).toArray⟩ : ByteArray) = ds := ⟨_, rfl⟩
      have hdz : ds.size ≤ 8 := by rw [← hds]; show (List.toArray _).size ≤ 8; simpa using hdl
      rw [hds] at hit HREC
      clear hds hdl
      have HTL := Lib.hid htl
      clear htl
      go_wp2_with fail
      refine hit.mono ?_
      clear hit
      rintro e w1 ⟨rfl, kk, os, rfl⟩
      have hbg : Below wr.heap.size wr (Go.Sort.grow (wr.drewN kk) os) := below_grow _ _ (Nat.le_refl _) _ _
      have HBG := Lib.hid hbg
      have HB1 : Hid (Lib.IsBuilder 67 5 B B (Lib.byteCells (textL (xs.take k))) (Go.Sort.grow (wr.drewN kk) os)) := by
        have step : ∀ p, Lib.BuilderAt 67 5 B B p (Lib.byteCells (textL (xs.take k))) wr → Lib.BuilderAt 67 5 B B p (Lib.byteCells (textL (xs.take k))) (Go.Sort.grow (wr.drewN kk) os) := by
          rintro p ⟨q1, v, q2, q3, q4⟩
          exact ⟨q1, v, (hbg.block B (blk_lt q2)).trans q2, own_same q3 fun j hj => hbg.block j (q3.lt j hj).2, q4⟩
        rcases HBU.out with h | h
        · exact .inl (step _ h)
        · exact .inr (step _ h)
      clear hbg
      have hcs : (ds ++ ⟨#[58]⟩ ++ x).size ≤ 2000000 := by
        rw [ByteArray.size_append, ByteArray.size_append]
        have : (⟨#[58]⟩ : ByteArray).size = 1 := rfl
        omega
      have h58 : (⟨#[58]⟩ : ByteArray).size = 1 := rfl
      go_wp2_with fail
      obtain ⟨r, hr⟩ : ∃ r : ByteArray, ds ++ (⟨#[58]⟩ : ByteArray) ++ x = r := ⟨_, rfl⟩
      simp only [hr] at hcs HREC ⊢
      have hlen3 : (Lib.byteCells (textL (xs.take k))).length + r.size ≤ 140737488355328 := by
        rw [byteCells_length]
        have := HTL.out
        omega
      have cw := wstr_calls B B (Lib.byteCells (textL (xs.take k))) r (Go.Sort.grow (wr.drewN kk) os) HB1.out hlen3 (Nat.le_trans hsB HBG.out.size)
      refine cw.mono ?_
      clear cw
      rintro e w2 ⟨rfl, hbu2, hbe2⟩
      have HBU2 : Hid (Lib.IsBuilder 67 5 B B (Lib.byteCells (textL (xs.take (k + 1)))) w2) := by
        right
        rw [HNX.out, byteCells_append]
        have e1 : Lib.strCells r = Lib.byteCells (recL x) := by rw [HREC.out]; rfl
        rw [← e1]
        exact hbu2
      have HBE2 := Lib.hid ((HBE.out.trans (HBG.out.mono hsB)).trans hbe2)
      clear hbu2 hbe2
      go_wp2_with fail
      go_roundw
      case rel => exact ⟨k + 1, by omega, by go_num, HBU2.out, HBE2.out⟩
      case measure => simp [Go.RowKit.intOf]; omega
    · have HT : Hid (textL (xs.take k) = textL xs) := by show _ = _; rw [List.take_of_length_le (by omega)]
      have hst := Tryd.Builder_String_any B B (textL (xs.take k)) wr HBU.out hsB
      rw [HT.out] at hst
      go_wp2_with fail
      refine hst.mono ?_
      rintro e w2 ⟨rfl, hb2⟩
      have HB2 := Lib.hid (HBE.out.trans hb2)
      clear hb2 hst
      go_wp2_with fail
      go_ret
      exact ⟨rfl, HBB.out ▸ HB2.out⟩
end Go.Proofs.YtpdhjfnddnoghaaDoor
