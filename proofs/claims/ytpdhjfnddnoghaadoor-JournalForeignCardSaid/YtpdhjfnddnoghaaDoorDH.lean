/- The disk's Read.
   Conditions: the disk lies in memory as DiskAt says. -/
import Derived.Test.YtpdhjfnddnoghaaDoorDG
import Derived.Laws.BytesArg
namespace Go.Proofs.YtpdhjfnddnoghaaDoor
open Go.RowKit Go.Lib
set_option linter.unusedVariables false

theorem settle_other (s : List ByteArray) (q : List (Nat × ByteArray)) (i : Nat) (h : ∀ x ∈ q, x.1 ≠ i) : (settle s q)[i]? = s[i]? := by
  induction q generalizing s with
  | nil => rfl
  | cons y q ih =>
    show (settle (s.set y.1 y.2) q)[i]? = _
    rw [ih _ fun x hx => h x (by simp [hx]), List.getElem?_set_ne (h y (by simp))]
theorem settle_last (s : List ByteArray) (q : List (Nat × ByteArray)) (i k : Nat) (hi : i < s.length) (hk : k < q.length) (he : q[k].1 = i) (h : ∀ x ∈ q.drop (k + 1), x.1 ≠ i) : (settle s q)[i]? = some q[k].2 := by
  have e := list_split q k hk
  rw [congrArg (settle s) e, settle_append]
  show (settle ((settle s (q.take k)).set q[k].1 q[k].2) _)[i]? = _
  rw [settle_other _ _ _ h, he, List.getElem?_set_self (by rw [settle_length]; exact hi)]

theorem strOfNums_byte (t : ByteArray) : strOfNums (t.data.toList.map fun b => (b.toNat : Int)) = t := by
  have h : ∀ l : List UInt8, l.map ((fun n : Int => UInt8.ofNat n.toNat) ∘ fun b : UInt8 => (b.toNat : Int)) = l := by
    intro l
    induction l with
    | nil => rfl
    | cons x l ih => simp only [List.map_cons, ih, Function.comp, Int.toNat_natCast, UInt8.ofNat_toNat]
  have e := strOfNums_data (t.data.toList.map fun b => (b.toNat : Int))
  rw [List.map_map, h] at e
  have : ∀ a b : ByteArray, a.data.toList = b.data.toList → a = b := by
    intro a b h
    cases a; cases b
    simpa using h
  exact this _ _ e

theorem stCells_at (s : List ByteArray) (h : ∀ x ∈ s, x.size = 64) (i : Nat) (hi : i < s.length) (j : Nat) (hj : j < 64) : (stCells s)[64 * i + j]? = (byteCells s[i].data.toList)[j]? := by
  have hl : (stCells (s.take i)).length = 64 * i := by
    rw [stCells_length _ fun x hx => h x (List.mem_of_mem_take hx), List.length_take]; omega
  have hb : (byteCells s[i].data.toList).length = 64 := by rw [byteCells_len, h _ (List.getElem_mem hi)]
  have e : stCells s = stCells (s.take i) ++ (byteCells s[i].data.toList ++ stCells (s.drop (i + 1))) := by
    refine (congrArg stCells (list_split s i hi)).trans ?_
    rw [stCells_append]
    rfl
  rw [e, List.getElem?_append_right (by omega), hl, show 64 * i + j - 64 * i = j from by omega, List.getElem?_append_left (by omega)]

/-- a sector's bytes as a string -/
theorem conv_sector {w : World} {p s : Nat} {qv : Value} {av : Option Nat} {st : DS} (hc : Cells w p s qv av st) (i : Nat) (hi : i < st.sect.length) (cap : Nat) :
    (convert 51 9 (.slice (some ⟨s, 64 * i, none⟩) 64 cap)).run Tryd.prog w = .ok (.string st.sect[i]) w := by
  have h6 := hc.wf.s64 _ (List.getElem_mem hi)
  have hb := bsize st.sect[i]
  have h := run_convert_bytes_arg (P := Tryd.prog) w 51 5 Tryd.underlying51 Tryd.underlying5 s (64 * i) 64 cap (st.sect[i].data.toList.map fun b => (b.toNat : Int)) (by rw [List.length_map]; omega) (fun j hj => ?_) 9 Tryd.underlying9
  · rw [strOfNums_byte] at h; exact h
  · have hj' : j < 64 := by simpa [hb, h6] using hj
    rw [cell_blk hc.ds, List.getElem?_toArray, stCells_at _ hc.wf.s64 i hi j hj']
    simp [byteCells, List.getElem?_eq_getElem (show j < st.sect[i].data.toList.length by omega), List.getD_eq_getElem?_getD]

theorem pw_below_drewN {B : Nat} {w W : World} (h : Below B w W) (n : Nat) : Below B w (W.drewN n) := ⟨h.os, h.tape, h.output, h.size, h.block⟩
theorem Cells.drewN {w : World} {p s : Nat} {qv : Value} {av : Option Nat} {st : DS} (h : Cells w p s qv av st) (n : Nat) : Cells (w.drewN n) p s qv av st := h.below (pw_below_drewN (Below.refl _ _) n)
set_option maxRecDepth 100000 in
theorem slice_sector (W : World) (s i n : Nat) (hi : i < n) :
    (Instr.slice 51 (.slice (some ⟨s, 0, none⟩) (64 * n) (64 * n)) (some (.int .i64 ((i : Int) * 64))) (some (.int .i64 (((i : Int) + 1) * 64))) none).run Tryd.prog W = .ok (.slice (some ⟨s, 64 * i, none⟩) 64 (64 * n - 64 * i)) W := by
  have hel : Tryd.prog.elem 51 = 5 := by simp [Program.elem, Tryd.underlying51]
  have hu : Tryd.prog.underlying 51 = some (.slice (Tryd.prog.elem 51)) := by rw [hel]; exact Tryd.underlying51
  rw [run_slice_lh W 51 _ _ _ hu .i64 .i64 _ _ (by omega) (by omega) (by omega), hel]
  have hs : (sizeOf 5).run Tryd.prog W = .ok 1 W := by kernel_rfl
  rw [hs]
  have e1 : ((i : Int) * 64).toNat = 64 * i := by omega
  have e2 : (((i : Int) + 1) * 64).toNat = 64 * i + 64 := by omega
  simp only [Result.andThen, sliced, e1, e2]
  rw [if_neg (by omega), show 64 * i + 64 - 64 * i = 64 from by omega]
  congr 2
  simp only [Option.map_some, Addr.add, Nat.mul_one, Nat.zero_add]
  split <;> simp_all

def ReadPost (w : World) (t : ByteArray) (c : Int) (e : Ending) (w' : World) : Prop := e = .returned (.tuple #[.string t, .int .i64 c]) ∧ Below w.heap.size w w'

theorem read_nil (w : World) (sec : Int) : Calls Tryd.prog 27 #[.pointer none, .int .i64 sec] w (ReadPost w emptyB 1) := by
  go_enter Tryd.func27, Tryd.ntmps27
  go_wp2_with fail
  refine (at_nil _ _).mono ?_
  rintro e w1 ⟨rfl, hb⟩
  have HB := Lib.hid hb
  clear hb
  go_wp2_with fail
  go_ret2
  exact ⟨rfl, HB.out.alloc HB.out.size _⟩

set_option maxHeartbeats 400000 in
theorem read_calls {w : World} {F : Nat → Prop} {p : Nat} {st : DS} (h : DiskAt w F p st) (hql : st.queue.length ≤ 1000000) (sec : Int) :
    Calls Tryd.prog 27 #[.pointer (some ⟨p, 0, none⟩), .int .i64 sec] w (ReadPost w (st.read sec).1 (st.read sec).2) := by
  obtain ⟨s, qv, av, hc, f1, f2, f3, f4, f5⟩ := h
  clear f1 f2 f3 f4 f5
  by_cases ho : st.off = true
  · have HE : Hid (st.read sec = (emptyB, 26)) := by show _ = _; unfold DS.read; rw [if_pos ho]
    go_enter Tryd.func27, Tryd.ntmps27
    go_wp2_with fail
    refine (at_off hc ho _).mono ?_
    rintro e w1 ⟨rfl, hb⟩
    have HB := Lib.hid hb
    clear hb hc ho
    go_wp2_with fail
    go_ret2
    rw [HE.out]
    exact ⟨rfl, HB.out.alloc HB.out.size _⟩
  · have ho' : st.off = false := by simpa using ho
    clear ho
    by_cases hv : st.valid sec = true
    · have hv1 : 0 ≤ sec ∧ sec < st.sect.length := by simpa [DS.valid] using hv
      obtain ⟨i, rfl⟩ := Int.eq_ofNat_of_zero_le hv1.1
      have hi : i < st.sect.length := by omega
      have hn2 := hc.wf.n2
      have HE : Hid (st.read i = (st.all.getD i emptyB, 0)) := by show _ = _; unfold DS.read; rw [ho', if_pos hv]; rfl
      have HV := Lib.hid hv
      have HO := Lib.hid ho'
      clear hv1
      obtain ⟨A, cap, rfl⟩ : ∃ A cap, qv = .slice A st.queue.length cap := by
        rcases hc.dq.2 with ⟨h1, h2⟩ | ⟨g, cap, cur, h1, _⟩
        · exact ⟨none, 0, by rw [h1, h2]⟩
        · exact ⟨_, cap, h1⟩
      go_enter Tryd.func27, Tryd.ntmps27
      go_wp2_with fail
      refine (at_ok hc HO.out _ HV.out).mono ?_
      rintro e w1 ⟨rfl, hb⟩
      have hc1 := hc.below hb
      have hz1 := hb.size
      obtain ⟨c0, c1, c2, c3, c4, c5⟩ := hc1.p4
      have HB := Lib.hid hb
      have HC := Lib.hid hc1
      clear hb hc hc1 hv ho'
      go_wp2_with fail
      have hcW := HC.out.below ((Below.refl _ _).alloc (Nat.le_refl _) (.cells #[.int .i64 ((i : Int) * 64), .int .i64 (((i : Int) + 1) * 64)] 58))
      have hbW := HB.out.alloc HB.out.size (.cells #[.int .i64 ((i : Int) * 64), .int .i64 (((i : Int) + 1) * 64)] 58)
      have l0 : (w1.alloc (.cells #[.int .i64 ((i : Int) * 64), .int .i64 (((i : Int) + 1) * 64)] 58)).cell? ⟨w1.heap.size, 0, none⟩ = some (.int .i64 ((i : Int) * 64)) := cell_blk (heap_alloc_new _ _) 0
      have l1 : (w1.alloc (.cells #[.int .i64 ((i : Int) * 64), .int .i64 (((i : Int) + 1) * 64)] 58)).cell? ⟨w1.heap.size, 1, none⟩ = some (.int .i64 (((i : Int) + 1) * 64)) := cell_blk (heap_alloc_new _ _) 1
      clear c0 c1 c2 c3 c4 c5 HB HC hz1
      generalize w1.alloc (.cells #[.int .i64 ((i : Int) * 64), .int .i64 (((i : Int) + 1) * 64)] 58) = W at *
      generalize w1.heap.size = B at *
      obtain ⟨c0, c1, c2, c3, c4, c5⟩ := hcW.p4
      have HC := Lib.hid hcW
      have HB := Lib.hid hbW
      clear hcW hbW c2 c3 c4
      go_loopw [8] (fun v wr => ∃ k m : Nat, k ≤ st.queue.length ∧ v = .int .i64 ((k : Int) - 1) ∧ (∀ x ∈ st.queue.drop k, x.1 ≠ i) ∧ wr = W.drewN m) (fun v _ => (intOf v + 1).toNat)
      case atStart => exact ⟨st.queue.length, 0, Nat.le_refl _, rfl, by simp, rfl⟩
      case round =>
        obtain ⟨k, m, hk, rfl, hno, rfl⟩ := hrel
        have HN := Lib.hid hno
        clear hno
        by_cases hk0 : k = 0
        · subst hk0
          have hsl := fun W' => slice_sector W' s i st.sect.length hi
          have hcv := fun n => conv_sector (HC.out.drewN n) i hi (64 * st.sect.length - 64 * i)
          have HL : Hid (st.all.getD i emptyB = st.sect[i]) := by
            show _ = _
            unfold DS.all
            rw [List.getD_eq_getElem?_getD, settle_other _ _ _ (by simpa using HN.out), List.getElem?_eq_getElem hi]
            rfl
          go_wp2_with fail
          go_quiet (fail)
          go_wp2_with fail
          go_ret2
          rw [HE.out, HL.out]
          exact ⟨rfl, pw_below_drewN (pw_below_drewN HB.out _) _⟩
        · obtain ⟨j, rfl⟩ : ∃ j, k = j + 1 := ⟨k - 1, by omega⟩
          have hjl : j < st.queue.length := by omega
          have hdq : W.ownsRow 0 60 3 (.slice A st.queue.length cap) st.queue.length (qCells st.queue) := HC.out.dq
          obtain ⟨g, cap', e, hgl, hgs⟩ := hdq.form (by omega)
          injection e with e3 e4 e5
          subst e3 e5
          obtain ⟨x0, x1, x2⟩ := pend_cells hdq j hjl
          clear e4 hgl hgs hdq hk0
          by_cases he : st.queue[j].1 = i
          · have HL : Hid (st.all.getD i emptyB = st.queue[j].2) := by
              show _ = _
              unfold DS.all
              rw [List.getD_eq_getElem?_getD, settle_last _ _ i j hi hjl he HN.out]
              rfl
            have ht1 : ((st.queue[j].1 : Int) * 64 == (i : Int) * 64) = true := by rw [he]; simp
            clear he
            go_wp2_with fail
            go_quiet (fail)
            go_wp2_with fail
            go_ret2
            rw [HE.out, HL.out]
            exact ⟨rfl, pw_below_drewN HB.out _⟩
          · have HN2 : Hid (∀ x ∈ st.queue.drop j, x.1 ≠ i) := by
              show ∀ x ∈ _, _
              rw [← List.getElem_cons_drop hjl]
              intro x hx
              rcases List.mem_cons.1 hx with rfl | hx
              · exact he
              · exact HN.out x hx
            have ht1 : ((st.queue[j].1 : Int) * 64 == (i : Int) * 64) = false := by simp; omega
            clear he
            go_wp2_with fail
            go_quiet (fail)
            go_wp2_with fail
            go_roundw
            case rel => exact ⟨j, m + nq, by omega, rfl, HN2.out, rfl⟩
            case measure => simp [intOf]
    · have hv' : st.valid sec = false := by simpa using hv
      have HE : Hid (st.read sec = (emptyB, 1)) := by show _ = _; unfold DS.read; rw [ho', hv']; rfl
      have HV := Lib.hid hv'
      have HO := Lib.hid ho'
      clear hv hv' ho'
      go_enter Tryd.func27, Tryd.ntmps27
      go_wp2_with fail
      refine (at_no hc HO.out _ HV.out).mono ?_
      rintro e w1 ⟨rfl, hb⟩
      have HB := Lib.hid hb
      clear hb hc
      go_wp2_with fail
      go_ret2
      rw [HE.out]
      exact ⟨rfl, HB.out.alloc HB.out.size _⟩
end Go.Proofs.YtpdhjfnddnoghaaDoor
