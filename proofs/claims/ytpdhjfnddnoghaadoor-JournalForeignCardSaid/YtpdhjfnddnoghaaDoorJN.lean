/- The disk's New, Raw, Rot.
   Conditions: the disk lies in memory as DiskAt says. -/
import Derived.Test.YtpdhjfnddnoghaaDoorJM
import Derived.Laws.BitsAllLaws
import Derived.Deep.OwnRows
import Derived.RegionTactic
import Derived.ChangeAlike
namespace Go.Proofs.YtpdhjfnddnoghaaDoor
open Go.RowKit Go.Lib
set_option linter.unusedVariables false

theorem Tryd.infoByte : (Tryd.prog.info? 5).map (fun i => (i.zero, i.size, i.bytes)) = some (some (.int .u8 0), 1, 1) := by kernel_rfl

theorem new_no (w : World) (n : Int) (hn : n < 1 ∨ 4000 < n) : Calls Tryd.prog 19 #[.int .i64 n] w fun e w' => e = .returned (.pointer none) ∧ w = w' := by
  by_cases h1 : n < 1
  · go_enter Tryd.func19, Tryd.ntmps19
    go_wp2
    go_ret
    exact ⟨rfl, rfl⟩
  · have h2 : 4000 < n := by omega
    clear hn
    go_enter Tryd.func19, Tryd.ntmps19
    go_wp2
    go_ret
    exact ⟨rfl, rfl⟩

/-- A new disk, in memory that the call has made. -/
def Fresh (w : World) (n : Nat) (e : Ending) (w' : World) : Prop := ∃ p F, e = .returned (.pointer (some ⟨p, 0, none⟩)) ∧ DiskAt w' F p (DS.new n) ∧ Below w.heap.size w w' ∧ ∀ k, F k → w.heap.size ≤ k

theorem zero_cells (n : Nat) : (madeCells #[Value.int .u8 0] (64 * n)) = (stCells (List.replicate n zeroB)).toArray := by
  apply Array.ext'
  rw [toList_madeCells_one]
  induction n with
  | zero => rfl
  | succ n ih =>
    have e : List.replicate (64 * (n + 1)) (Value.int .u8 0) = List.replicate 64 (Value.int .u8 0) ++ List.replicate (64 * n) (Value.int .u8 0) := by
      rw [List.replicate_append_replicate]; congr 1; omega
    rw [e, ih, List.replicate_succ]
    rfl

theorem new_fin (w : World) (n : Nat) (h1 : 1 ≤ n) (h2 : n ≤ 4000) : Fresh w n (.returned (.pointer (some ⟨w.heap.size + 1, 0, none⟩)))
    ((w.alloc (.cells (madeCells #[.int .u8 0] (64 * n)) 5)).alloc (.cells #[.slice (some ⟨w.heap.size, 0, none⟩) (64 * n) (64 * n), .slice none 0 0, .bool false, .pointer none] 55)) := by
  have hl : (DS.new n).sect.length = n := by simp [DS.new]
  refine ⟨w.heap.size + 1, fun k => k = w.heap.size ∨ k = w.heap.size + 1, rfl, ⟨w.heap.size, .slice none 0 0, none, ⟨?_, ?_, World.ownsRow_nil _ _ _ _, True.intro, DS.WF.new n h1 h2⟩, .inr rfl, .inl rfl, fun k hk => by simp [Value.ownBlock] at hk, fun k hk => by simp at hk, fun k hk => ?_⟩,
    ((Below.refl _ _).alloc (Nat.le_refl _) _).alloc (by simp) _, fun k hk => by omega⟩
  · rw [hl]
    exact heap_new2 w _ _
  · rw [Below.heap_alloc _ _ _ (by simp), heap_alloc_new, zero_cells]
    rfl
  · simp; omega

theorem new_ok (w : World) (n : Nat) (h1 : 1 ≤ n) (h2 : n ≤ 4000) : Calls Tryd.prog 19 #[.int .i64 n] w (Fresh w n) := by
  have hmk := fun W => Go.run_make_row' (P := Tryd.prog) 51 5 (.int .u8 0) 1 Tryd.underlying51 Tryd.infoByte rfl .i64 .i64 (64 * n) (by omega) (by omega) W
  have ec : ((64 * n : Nat) : Int) = (n : Int) * 64 := by omega
  rw [ec] at hmk
  clear ec
  go_enter Tryd.func19, Tryd.ntmps19
  go_wp2
  go_ret
  exact new_fin w n h1 h2

theorem byteCells_nums (l : List UInt8) : byteCells l = (l.map fun b => (b.toNat : Int)).map (Value.int .u8) := by simp [byteCells]
theorem stCells_bytes (s : List ByteArray) : stCells s = byteCells (s.flatMap fun x => x.data.toList) := by
  induction s with
  | nil => rfl
  | cons a s ih => simp only [stCells, List.flatMap_cons, byteCells_append] at *; rw [ih]

theorem flip_cells (s : List ByteArray) (h : ∀ x ∈ s, x.size = 64) (i k m : Nat) (hi : i < s.length) (hk : k < 64) (hm : m < 256) (c : Int) (hc : (stCells s)[64 * i + k]? = some (.int .u8 c)) :
    (stCells s).set (64 * i + k) (.int .u8 (bits .xor .u8 c m)) = stCells (s.modify i (flipAt · k m)) := by
  have hb : (byteCells s[i].data.toList).length = 64 := by rw [byteCells_len, h _ (List.getElem_mem hi)]
  have hbs := bsize s[i]
  rw [h _ (List.getElem_mem hi)] at hbs
  rw [stCells_at s h i hi k hk] at hc
  have hl : (stCells (s.take i)).length = 64 * i := by
    rw [stCells_length _ fun x hx => h x (List.mem_of_mem_take hx), List.length_take]; omega
  have e : stCells s = stCells (s.take i) ++ (byteCells s[i].data.toList ++ stCells (s.drop (i + 1))) := by
    refine (congrArg stCells (list_split s i hi)).trans ?_
    rw [stCells_append]
    rfl
  have e2 : stCells (s.modify i (flipAt · k m)) = stCells (s.take i) ++ (byteCells (flipAt s[i] k m).data.toList ++ stCells (s.drop (i + 1))) := by
    rw [List.modify_eq_take_cons_drop hi, stCells_append]
    rfl
  rw [e, e2, List.set_append_right _ _ (by omega), hl, show 64 * i + k - 64 * i = k from by omega, List.set_append_left _ _ (by omega)]
  congr 2
  have hkl : k < s[i].data.toList.length := by omega
  simp only [byteCells, List.getElem?_map, List.getElem?_eq_getElem hkl, Option.map_some, Option.some.injEq, Value.int.injEq, true_and] at hc
  subst hc
  apply List.ext_getElem
  · simp [flipAt, byteCells]
  · intro j h1 h2
    simp only [byteCells, flipAt, List.getElem_set, List.getElem_map, List.getElem_modify]
    split
    · rename_i e; subst e
      have hu : s[i].data.toList[k].toNat < 256 := s[i].data.toList[k].toNat_lt
      rw [u8_xor_nat _ _ hu hm]
      congr 2
      rw [UInt8.toNat_xor, UInt8.toNat_ofNat_of_lt' hm]
    · rfl

theorem st_cell {w : World} {p s : Nat} {qv : Value} {av : Option Nat} {st : DS} (hc : Cells w p s qv av st) (j : Nat) (hj : j < 64 * st.sect.length) : ∃ c : Int, w.cell? ⟨s, j, none⟩ = some (.int .u8 c) ∧ 0 ≤ c ∧ c ≤ 255 := by
  rw [cell_blk hc.ds, List.getElem?_toArray]
  have hl := stCells_length _ hc.wf.s64
  rw [stCells_bytes] at hl ⊢
  rw [byteCells_length] at hl
  generalize (st.sect.flatMap fun x => x.data.toList) = L at *
  have hjl : j < L.length := by omega
  refine ⟨L[j].toNat, ?_, by omega, ?_⟩
  · simp [byteCells, List.getElem?_eq_getElem hjl]
  · have := L[j].toNat_lt
    omega

theorem rot_fin {w w1 : World} {F : Nat → Prop} {p s : Nat} {qv : Value} {av : Option Nat} {st : DS} (hc : Cells w1 p s qv av st) (f1 : F p) (f2 : F s) (f3 : ∀ k, qv.ownBlock = some k → F k) (f4 : ∀ k, av = some k → F k) (f5 : ∀ k, F k → k < w.heap.size) (hu : Upd F w w1)
    (i k m : Nat) (hi : i < st.sect.length) (hk : k < 64) (hm0 : 0 < m) (hm : m < 256) (c : Int) (hcc : w1.cell? ⟨s, 64 * i + k, none⟩ = some (.int .u8 c)) :
    Turns w F p (st.rot i k m) (.tuple #[]) (.returned (.tuple #[])) (w1.setCell ⟨s, 64 * i + k, none⟩ (.int .u8 (bits .xor .u8 c m))) := by
  have he : st.rot i k m = { st with sect := st.sect.modify i (flipAt · k m) } := by
    unfold DS.rot DS.valid
    rw [if_pos (by simp; omega)]
    simp
  have hset := Go.heap_setCell_same _ _ (64 * i + k) _ _ (.int .u8 (bits .xor .u8 c m)) hc.ds
  rw [cell_blk hc.ds, List.getElem?_toArray] at hcc
  have hf := flip_cells st.sect hc.wf.s64 i k m hi hk hm c hcc
  have hwf := hc.wf.rot i k m
  rw [he] at hwf
  rw [he]
  have hg : w1.grownBy (w1.setCell ⟨s, 64 * i + k, none⟩ (.int .u8 (bits .xor .u8 c m))) (some s) := grownBy_setCell _ _ _ _
  refine ⟨rfl, F, ⟨s, qv, av, hc.turned hg _ (by simp) hwf.s64 ?_, f1, f2, f3, f4, fun j hj => Nat.lt_of_lt_of_le (f5 j hj) (hu.setCell _ (.inl f2) _).size⟩, hu.setCell _ (.inl f2) _, fun j hj => .inl hj⟩
  rw [hset, ← hf]
  simp

set_option maxHeartbeats 400000 in
theorem rot_calls {w : World} {F : Nat → Prop} {p : Nat} {st : DS} (h : DiskAt w F p st) (sec a m : Int) :
    Calls Tryd.prog 17 #[.pointer (some ⟨p, 0, none⟩), .int .i64 sec, .int .i64 a, .int .i64 m] w (Turns w F p (st.rot sec a m) (.tuple #[])) := by
  have h' := h
  obtain ⟨s, qv, av, hc, f1, f2, f3, f4, f5⟩ := h
  obtain ⟨c0, c1, c2, c3, c4, c5⟩ := hc.p4
  have hn2 := hc.wf.n2
  by_cases hv : st.valid sec = true
  · have hv1 : 0 ≤ sec ∧ sec < st.sect.length := by simpa [DS.valid] using hv
    by_cases ha : 0 ≤ a ∧ a < 64 ∧ 0 < m ∧ m < 256
    · obtain ⟨i, rfl⟩ := Int.eq_ofNat_of_zero_le hv1.1
      obtain ⟨a0, a1, m0, m1⟩ := ha
      have hi : i < st.sect.length := by omega
      have HC := Lib.hid hc
      clear hc hv hv1 c1 c2 c3 c4
      go_enter Tryd.func17, Tryd.ntmps17
      go_wp2_with fail
      refine (place_ok _ p _ (64 * st.sect.length) _ (by omega) c0 _ (by omega) (by omega)).mono ?_
      rintro e w1 ⟨rfl, hb⟩
      have hc1 := HC.out.below hb
      obtain ⟨c0, c1, c2, c3, c4, c5⟩ := hc1.p4
      have hs1 := blk_lt hc1.ds
      have HB := Lib.hid hb
      have HC1 := Lib.hid hc1
      clear hb hc1 c1 c2 c3
      go_wp2_with fail
      have b0 : (0 : Int) ≤ (i : Int) * 64 + a := by omega
      have b1 : (i : Int) * 64 + a < ((64 * st.sect.length : Nat) : Int) := by omega
      obtain ⟨c, hcc, hcr⟩ := st_cell HC1.out ((i : Int) * 64 + a).toNat (by omega)
      have hfr : ∀ o, w1.frozen? ⟨s, o, none⟩ = false := fun o => free_blk HC1.out.ds o
      go_region
      go_end0
      have e1 : ((i : Int) * 64 + a).toNat = 64 * i + a.toNat := by omega
      have e2 : a = (a.toNat : Int) := by omega
      have e3 : m = (m.toNat : Int) := by omega
      rw [e1] at hcc ⊢
      rw [e3]
      have h := rot_fin (m := m.toNat) (k := a.toNat) HC1.out f1 f2 f3 f4 f5 (Upd.of_below HB.out F) i hi (by omega) (by omega) (by omega) c hcc
      rw [← e2] at h
      exact (h.alloc _).drew
    · have HE : Hid (st.rot sec a m = st) := by
        show _ = _
        unfold DS.rot
        rw [if_neg]
        simp
        omega
      have HV := Lib.hid hv1
      clear hc hv hv1 c1 c2 c3 c4
      have key : a < 0 ∨ (0 ≤ a ∧ 64 ≤ a) ∨ (0 ≤ a ∧ a < 64 ∧ m ≤ 0) ∨ (0 ≤ a ∧ a < 64 ∧ 0 < m ∧ 256 ≤ m) := by omega
      clear ha
      rcases key with k1 | ⟨k1, k2⟩ | ⟨k1, k2, k3⟩ | ⟨k1, k2, k3, k4⟩
      all_goals
        go_enter Tryd.func17, Tryd.ntmps17
        go_wp2_with fail
        refine (place_ok _ p _ (64 * st.sect.length) _ (by omega) c0 _ HV.out.1 (by have := HV.out.2; omega)).mono ?_
        rintro e w1 ⟨rfl, hb⟩
        have HB := Lib.hid hb
        clear hb
        go_wp2_with fail
        go_end0
        rw [HE.out]
        exact Turns.alloc (Turns.self h' HB.out) _
  · have hv' : st.valid sec = false := by simpa using hv
    have HE : Hid (st.rot sec a m = st) := by show _ = _; unfold DS.rot; rw [hv']; rfl
    have HV : Hid (sec < 0 ∨ ((64 * st.sect.length : Nat) : Int) / 64 ≤ sec) := by
      show _ ∨ _
      have : ¬ (0 ≤ sec ∧ sec < st.sect.length) := by intro ⟨h1, h2⟩; simp [DS.valid, h1, h2] at hv
      omega
    clear hc hv hv' c1 c2 c3 c4
    go_enter Tryd.func17, Tryd.ntmps17
    go_wp2_with fail
    refine (place_no _ p _ (64 * st.sect.length) _ (by omega) c0 _ HV.out).mono ?_
    rintro e w1 ⟨rfl, hb⟩
    have HB := Lib.hid hb
    clear hb
    go_wp2_with fail
    go_end0
    rw [HE.out]
    exact Turns.alloc (Turns.self h' HB.out) _

theorem rot_nil (w : World) (sec a m : Int) : Calls Tryd.prog 17 #[.pointer none, .int .i64 sec, .int .i64 a, .int .i64 m] w fun e w' => e = .returned (.tuple #[]) ∧ Below w.heap.size w w' := by
  go_enter Tryd.func17, Tryd.ntmps17
  go_wp2_with fail
  refine (place_nil _ _).mono ?_
  rintro e w1 ⟨rfl, hb⟩
  have HB := Lib.hid hb
  clear hb
  go_wp2_with fail
  go_end0
  exact ⟨rfl, HB.out.alloc HB.out.size _⟩
end Go.Proofs.YtpdhjfnddnoghaaDoor
