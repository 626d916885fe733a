/- The journal's Append where it adds nothing.
   Conditions: the disk, the journal and the texts lie in memory. -/
import Derived.Test.YtpdhjfnddnoghaaDoorJU
namespace Go.Proofs.YtpdhjfnddnoghaaDoor
open Go.RowKit Go.Lib
set_option linter.unusedVariables false
set_option linter.unusedSimpArgs false

/-- what Append leaves -/
def AppendOut (w : World) (F G : Nat → Prop) (d j : Nat) (r : DS × JSt × Int) (e : Ending) (w' : World) : Prop :=
  e = .returned (.int .i64 r.2.2) ∧ ∃ F' G', DiskAt w' F' d r.1 ∧ JAt w' G' j d r.2.1 ∧ Upd (fun k => F k ∨ G k) w w' ∧ (∀ k, F' k → F k ∨ w.heap.size ≤ k) ∧ (∀ k, G' k → G k ∨ w.heap.size ≤ k) ∧ ∀ k, G' k → ¬ F' k
theorem AppendOut.same {w w' : World} {F G : Nat → Prop} {d j : Nat} {st : DS} {js : JSt} {c : Int} (hd : DiskAt w F d st) (hj : JAt w G j d js) (hFG : ∀ k, G k → ¬ F k) (hb : Below w.heap.size w w') : AppendOut w F G d j (st, js, c) (.returned (.int .i64 c)) w' :=
  ⟨rfl, F, G, hd.below hb, hj.below hb, Upd.of_below hb _, fun k hk => .inl hk, fun k hk => .inl hk, hFG⟩
theorem two_new (w : World) (o1 o2 : Obj) : Below w.heap.size w ((w.alloc o1).alloc o2) := ((Below.refl _ _).alloc (Nat.le_refl _) _).alloc (by simp) _
set_option maxRecDepth 100000 in
theorem append_nil (w : World) (v : Value) : Calls Tryd.prog 18 #[.pointer none, v] w fun e w' => e = .returned (.int .i64 1) ∧ Below w.heap.size w w' := by
  go_enter_defers Tryd.func18, Tryd.ntmps18
  go_wp2_with fail
  exact ⟨.int .i64 1, by simp [results, Tryd.results18, go_sem], rfl, two_new _ _ _⟩
set_option maxRecDepth 100000 in
theorem append_broken {w : World} {F G : Nat → Prop} {d j : Nat} {st : DS} {js : JSt} (hd : DiskAt w F d st) (hj : JAt w G j d js) (hFG : ∀ k, G k → ¬ F k) (hbr : js.broken = true) (v : Value) :
    Calls Tryd.prog 18 #[.pointer (some ⟨j, 0, none⟩), v] w (AppendOut w F G d j (st, js, 12)) := by
  obtain ⟨rv, h1, h2, h3, h4, h5⟩ := id hj
  have c4 := cell_blk h1 4
  simp only [List.getElem?_toArray, List.getElem?_cons_zero, List.getElem?_cons_succ, hbr] at c4
  have HD := Lib.hid hd
  have HJ := Lib.hid hj
  have HFG := Lib.hid hFG
  have hjl := blk_lt h1
  clear h1 h2 h3 h4 h5 hd hj hFG hbr
  go_enter_defers Tryd.func18, Tryd.ntmps18
  go_wp2_with fail
  exact ⟨.int .i64 12, by simp [results, Tryd.results18, go_sem], AppendOut.same HD.out HJ.out HFG.out (two_new _ _ _)⟩
/-- the boxes that Append lays first -/
theorem below_put {w W W2 : World} {b : Nat} (h : Below w.heap.size w W) (h2 : Below W.heap.size W W2) (hb : w.heap.size ≤ b) (x : Value) : Below w.heap.size w (W2.setCell ⟨b, 0, none⟩ x) := (h.trans (h2.mono h.size)).setCell (by exact hb) x
set_option maxRecDepth 100000 in
set_option maxHeartbeats 1000000 in
theorem append_long {w : World} (hl : LaidJ w) {F G : Nat → Prop} {d j : Nat} {st : DS} {js : JSt} (hd : DiskAt w F d st) (hj : JAt w G j d js) (hFG : ∀ k, G k → ¬ F k) (hbr : js.broken = false) (v : Value) (xs : List ByteArray) (hv : TextsAt w v xs) (hsm : Small xs) (ht : tooLong xs = true) :
    Calls Tryd.prog 18 #[.pointer (some ⟨j, 0, none⟩), v] w (AppendOut w F G d j (st, js, 2)) := by
  obtain ⟨rv, h1, h2, h3, h4, h5⟩ := id hj
  have c4 := cell_blk h1 4
  simp only [List.getElem?_toArray, List.getElem?_cons_zero, List.getElem?_cons_succ, hbr] at c4
  have HD := Lib.hid hd
  have HJ := Lib.hid hj
  have HFG := Lib.hid hFG
  have HV := Lib.hid hv
  have HLA := Lib.hid hl
  have HSM := Lib.hid hsm
  have hsm1 := hsm.1
  have hjl := blk_lt h1
  have hW0 := two_new w (.cells #[.pointer (some ⟨j, 0, none⟩)] 26) (.cells #[.int .i64 0] 33)
  have cbj : ((w.alloc (.cells #[.pointer (some ⟨j, 0, none⟩)] 26)).alloc (.cells #[.int .i64 0] 33)).heap[w.heap.size]? = some (.cells #[.pointer (some ⟨j, 0, none⟩)] 26 (0, 0)) := (Below.heap_alloc _ _ _ (by simp)).trans (heap_alloc_new w _)
  have cbe : ((w.alloc (.cells #[.pointer (some ⟨j, 0, none⟩)] 26)).alloc (.cells #[.int .i64 0] 33)).heap[w.heap.size + 1]? = some (.cells #[.int .i64 0] 33 (0, 0)) := heap_new2 w _ _
  have hcc := contains_calls _ v xs (hv.below hW0) (by omega) (fun x hx => by have := hsm.2 x hx; omega)
  clear h1 h2 h3 h4 h5 hd hj hFG hbr hv hl hsm
  go_enter_defers Tryd.func18, Tryd.ntmps18
  go_wp2_with fail
  rw [ht] at hcc
  refine hcc.mono ?_
  clear hcc ht
  rintro e w1 ⟨rfl, rfl⟩
  have HW0 := Lib.hid hW0
  have HBJ := Lib.hid cbj
  have HBE := Lib.hid cbe
  clear hW0
  generalize (w.alloc (.cells #[.pointer (some ⟨j, 0, none⟩)] 26)).alloc (.cells #[.int .i64 0] 33) = W0 at HW0 HBJ HBE cbj cbe ⊢
  have x0 := cell_blk cbj 0
  have y0 := cell_blk cbe 0
  have f0 := free_blk cbe 0
  have z0 := blk_lt cbe
  simp only [List.getElem?_toArray, List.getElem?_cons_zero] at x0 y0
  clear cbj cbe
  go_wp2_with fail
  exact ⟨.int .i64 2, by simp [results, Tryd.results18, go_sem, y0, f0, z0], AppendOut.same HD.out HJ.out HFG.out (HW0.out.setCell (by show w.heap.size ≤ w.heap.size + 1; omega) _)⟩
def pieceText (xs : List ByteArray) : ByteArray := bytesB (textL xs)
set_option maxRecDepth 100000 in
set_option maxHeartbeats 2000000 in
theorem append_full {w : World} (hl : LaidJ w) {F G : Nat → Prop} {d j : Nat} {st : DS} {js : JSt} (hd : DiskAt w F d st) (hj : JAt w G j d js) (hFG : ∀ k, G k → ¬ F k) (hbr : js.broken = false) (v : Value) (xs : List ByteArray) (hv : TextsAt w v xs) (hsm : Small xs) (ht : tooLong xs = false) (htl : (textL xs).length ≤ 1000000) (hs4 : js.sectors ≤ 4000) (hc4 : js.count ≤ 4000) (hroom : js.room < ((piecesL (textL xs)).length : Int)) :
    Calls Tryd.prog 18 #[.pointer (some ⟨j, 0, none⟩), v] w (AppendOut w F G d j (st, js, 28)) := by
  obtain ⟨rv, h1, h2, h3, h4, h5⟩ := id hj
  have c4 := cell_blk h1 4
  simp only [List.getElem?_toArray, List.getElem?_cons_zero, List.getElem?_cons_succ, hbr] at c4
  have HD := Lib.hid hd
  have HJ := Lib.hid hj
  have HFG := Lib.hid hFG
  have HV := Lib.hid hv
  have HLA := Lib.hid hl
  have HSM := Lib.hid hsm
  have hsm1 := hsm.1
  have hjl := blk_lt h1
  have hW0 := two_new w (.cells #[.pointer (some ⟨j, 0, none⟩)] 26) (.cells #[.int .i64 0] 33)
  have cbj : ((w.alloc (.cells #[.pointer (some ⟨j, 0, none⟩)] 26)).alloc (.cells #[.int .i64 0] 33)).heap[w.heap.size]? = some (.cells #[.pointer (some ⟨j, 0, none⟩)] 26 (0, 0)) := (Below.heap_alloc _ _ _ (by simp)).trans (heap_alloc_new w _)
  have cbe : ((w.alloc (.cells #[.pointer (some ⟨j, 0, none⟩)] 26)).alloc (.cells #[.int .i64 0] 33)).heap[w.heap.size + 1]? = some (.cells #[.int .i64 0] 33 (0, 0)) := heap_new2 w _ _
  have hcc := contains_calls _ v xs (hv.below hW0) (by omega) (fun x hx => by have := hsm.2 x hx; omega)
  clear h1 h2 h3 h4 h5 hd hj hFG hbr hv hl hsm
  go_enter_defers Tryd.func18, Tryd.ntmps18
  go_wp2_with fail
  rw [ht] at hcc
  refine hcc.mono ?_
  clear hcc ht
  rintro e w1 ⟨rfl, rfl⟩
  have HW0 := Lib.hid hW0
  have HBJ := Lib.hid cbj
  have HBE := Lib.hid cbe
  clear hW0
  generalize (w.alloc (.cells #[.pointer (some ⟨j, 0, none⟩)] 26)).alloc (.cells #[.int .i64 0] 33) = W0 at HW0 HBJ HBE cbj cbe ⊢
  have x0 := cell_blk cbj 0
  have y0 := cell_blk cbe 0
  have f0 := free_blk cbe 0
  have z0 := blk_lt cbe
  simp only [List.getElem?_toArray, List.getElem?_cons_zero] at x0 y0
  clear cbj cbe
  go_wp2_with fail
  have ct := jtext_calls W0 (HLA.out.below HW0.out) v xs (HV.out.below HW0.out) HSM.out
  refine ct.mono ?_
  clear ct
  rintro e w1 ⟨rfl, hb1⟩
  have HB1 : Hid (Below W0.heap.size W0 w1) := hb1
  clear hb1
  have HPL : Hid (pieceText xs = bytesB (textL xs)) := rfl
  have cs := split_calls w1 (pieceText xs) (by unfold pieceText; rw [bytesB_size]; exact htl)
  have hps : piecesL (pieceText xs).data.toList = piecesL (textL xs) := by unfold pieceText; rw [bytesB_list]
  rw [hps] at cs
  clear hps
  rw [← HPL.out]
  generalize pieceText xs = tx at cs HPL ⊢
  go_wp2_with fail
  refine cs.mono ?_
  clear cs
  rintro e w2 ⟨pv, rfl, hown, hb2⟩
  have HB2 : Hid (Below W0.heap.size W0 w2) := HB1.out.trans (hb2.mono HB1.out.size)
  have HOWN := Lib.hid hown
  have hform : ∃ PA pcap, pv = .slice PA (piecesL (textL xs)).length pcap := by obtain ⟨A, cap, h, _⟩ := TextsAt.of_own hown; exact ⟨A, cap, h⟩
  obtain ⟨PA, pcap, rfl⟩ := hform
  clear hown hb2
  obtain ⟨np, hnp⟩ : ∃ np, (piecesL (textL xs)).length = np := ⟨_, rfl⟩
  have HNP := Lib.hid hnp
  simp only [hnp] at *
  clear hnp
  have x0 := cell_blk ((HB2.out.block _ (blk_lt HBJ.out)).trans HBJ.out) 0
  have y0 := cell_blk ((HB2.out.block _ (blk_lt HBE.out)).trans HBE.out) 0
  have f0 := free_blk ((HB2.out.block _ (blk_lt HBE.out)).trans HBE.out) 0
  have z0 : w.heap.size + 1 < w2.heap.size := Nat.lt_of_lt_of_le (blk_lt HBE.out) HB2.out.size
  simp only [List.getElem?_toArray, List.getElem?_cons_zero] at x0 y0
  have cr := room_calls (HJ.out.below (HW0.out.trans (HB2.out.mono HW0.out.size))) (by omega) (by omega)
  have HR : Hid (js.room = (js.sectors : Int) - 2 - (js.count : Int)) := rfl
  generalize js.room = rm at cr HR hroom
  go_wp2_with fail
  refine cr.mono ?_
  clear cr
  rintro e w3 ⟨rfl, hb3⟩
  have HB3 : Hid (Below W0.heap.size W0 w3) := HB2.out.trans (hb3.mono HB2.out.size)
  have HB23 : Hid (Below w2.heap.size w2 w3) := hb3
  clear hb3 x0 y0 f0 z0
  have x0 := cell_blk ((HB3.out.block _ (blk_lt HBJ.out)).trans HBJ.out) 0
  have y0 := cell_blk ((HB3.out.block _ (blk_lt HBE.out)).trans HBE.out) 0
  have f0 := free_blk ((HB3.out.block _ (blk_lt HBE.out)).trans HBE.out) 0
  have z0 : w.heap.size + 1 < w3.heap.size := Nat.lt_of_lt_of_le (blk_lt HBE.out) HB3.out.size
  simp only [List.getElem?_toArray, List.getElem?_cons_zero] at x0 y0
  go_wp2_with fail
  exact ⟨.int .i64 28, by simp [results, Tryd.results18, go_sem, y0, f0, z0], AppendOut.same HD.out HJ.out HFG.out (below_put HW0.out HB3.out (by omega) _)⟩
set_option maxRecDepth 100000 in
set_option maxHeartbeats 2000000 in
theorem append_empty {w : World} (hl : LaidJ w) {F G : Nat → Prop} {d j : Nat} {st : DS} {js : JSt} (hd : DiskAt w F d st) (hj : JAt w G j d js) (hFG : ∀ k, G k → ¬ F k) (hbr : js.broken = false) (v : Value) (hv : TextsAt w v []) (hs4 : js.sectors ≤ 4000) (hc4 : js.count ≤ 4000) (hroom0 : 0 ≤ js.room) :
    Calls Tryd.prog 18 #[.pointer (some ⟨j, 0, none⟩), v] w (AppendOut w F G d j (st, js, 0)) := by
  obtain ⟨xs, hxs⟩ : ∃ xs : List ByteArray, xs = [] := ⟨_, rfl⟩
  have hsm : Small xs := by rw [hxs]; exact ⟨by simp, fun x hx => by simp at hx⟩
  have ht : tooLong xs = false := by rw [hxs]; rfl
  have htl : (textL xs).length ≤ 1000000 := by rw [hxs]; simp [textL]
  have HXL : Hid ((piecesL (textL xs)).length = 0) := by show _ = _; rw [hxs]; rfl
  have HX0 : Hid (xs.length = 0) := by show _ = _; rw [hxs]; rfl
  rw [← hxs] at hv
  obtain ⟨VA, vcap, hveq, _⟩ := id hv
  have hveq2 : v = .slice VA 0 vcap := by rw [hveq, HX0.out]
  clear hveq
  have hroom : 0 ≤ js.room := hroom0
  subst hveq2
  clear hroom0 hxs
  obtain ⟨rv, h1, h2, h3, h4, h5⟩ := id hj
  have c4 := cell_blk h1 4
  simp only [List.getElem?_toArray, List.getElem?_cons_zero, List.getElem?_cons_succ, hbr] at c4
  have HD := Lib.hid hd
  have HJ := Lib.hid hj
  have HFG := Lib.hid hFG
  have HV := Lib.hid hv
  have HLA := Lib.hid hl
  have HSM := Lib.hid hsm
  have hsm1 := hsm.1
  have hjl := blk_lt h1
  have hW0 := two_new w (.cells #[.pointer (some ⟨j, 0, none⟩)] 26) (.cells #[.int .i64 0] 33)
  have cbj : ((w.alloc (.cells #[.pointer (some ⟨j, 0, none⟩)] 26)).alloc (.cells #[.int .i64 0] 33)).heap[w.heap.size]? = some (.cells #[.pointer (some ⟨j, 0, none⟩)] 26 (0, 0)) := (Below.heap_alloc _ _ _ (by simp)).trans (heap_alloc_new w _)
  have cbe : ((w.alloc (.cells #[.pointer (some ⟨j, 0, none⟩)] 26)).alloc (.cells #[.int .i64 0] 33)).heap[w.heap.size + 1]? = some (.cells #[.int .i64 0] 33 (0, 0)) := heap_new2 w _ _
  have hcc := contains_calls _ (.slice VA 0 vcap) xs (hv.below hW0) (by omega) (fun x hx => by have := hsm.2 x hx; omega)
  clear h1 h2 h3 h4 h5 hd hj hFG hbr hv hl hsm
  go_enter_defers Tryd.func18, Tryd.ntmps18
  go_wp2_with fail
  rw [ht] at hcc
  refine hcc.mono ?_
  clear hcc ht
  rintro e w1 ⟨rfl, rfl⟩
  have HW0 := Lib.hid hW0
  have HBJ := Lib.hid cbj
  have HBE := Lib.hid cbe
  clear hW0
  generalize (w.alloc (.cells #[.pointer (some ⟨j, 0, none⟩)] 26)).alloc (.cells #[.int .i64 0] 33) = W0 at HW0 HBJ HBE cbj cbe ⊢
  have x0 := cell_blk cbj 0
  have y0 := cell_blk cbe 0
  have f0 := free_blk cbe 0
  have z0 := blk_lt cbe
  simp only [List.getElem?_toArray, List.getElem?_cons_zero] at x0 y0
  clear cbj cbe
  go_wp2_with fail
  have ct := jtext_calls W0 (HLA.out.below HW0.out) (.slice VA 0 vcap) xs (HV.out.below HW0.out) HSM.out
  refine ct.mono ?_
  clear ct
  rintro e w1 ⟨rfl, hb1⟩
  have HB1 : Hid (Below W0.heap.size W0 w1) := hb1
  clear hb1
  have HPL : Hid (pieceText xs = bytesB (textL xs)) := rfl
  have cs := split_calls w1 (pieceText xs) (by unfold pieceText; rw [bytesB_size]; exact htl)
  have hps : piecesL (pieceText xs).data.toList = piecesL (textL xs) := by unfold pieceText; rw [bytesB_list]
  rw [hps] at cs
  clear hps
  rw [← HPL.out]
  generalize pieceText xs = tx at cs HPL ⊢
  go_wp2_with fail
  refine cs.mono ?_
  clear cs
  rintro e w2 ⟨pv, rfl, hown, hb2⟩
  have HB2 : Hid (Below W0.heap.size W0 w2) := HB1.out.trans (hb2.mono HB1.out.size)
  have HOWN := Lib.hid hown
  have hform : ∃ PA pcap, pv = .slice PA (piecesL (textL xs)).length pcap := by obtain ⟨A, cap, h, _⟩ := TextsAt.of_own hown; exact ⟨A, cap, h⟩
  obtain ⟨PA, pcap, rfl⟩ := hform
  clear hown hb2
  obtain ⟨np, hnp⟩ : ∃ np, (piecesL (textL xs)).length = np := ⟨_, rfl⟩
  have HNP := Lib.hid hnp
  simp only [hnp] at *
  clear hnp
  have x0 := cell_blk ((HB2.out.block _ (blk_lt HBJ.out)).trans HBJ.out) 0
  have y0 := cell_blk ((HB2.out.block _ (blk_lt HBE.out)).trans HBE.out) 0
  have f0 := free_blk ((HB2.out.block _ (blk_lt HBE.out)).trans HBE.out) 0
  have z0 : w.heap.size + 1 < w2.heap.size := Nat.lt_of_lt_of_le (blk_lt HBE.out) HB2.out.size
  simp only [List.getElem?_toArray, List.getElem?_cons_zero] at x0 y0
  have cr := room_calls (HJ.out.below (HW0.out.trans (HB2.out.mono HW0.out.size))) (by omega) (by omega)
  have HR : Hid (js.room = (js.sectors : Int) - 2 - (js.count : Int)) := rfl
  generalize js.room = rm at cr HR hroom
  go_wp2_with fail
  refine cr.mono ?_
  clear cr
  rintro e w3 ⟨rfl, hb3⟩
  have HB3 : Hid (Below W0.heap.size W0 w3) := HB2.out.trans (hb3.mono HB2.out.size)
  have HB23 : Hid (Below w2.heap.size w2 w3) := hb3
  clear hb3 x0 y0 f0 z0
  have x0 := cell_blk ((HB3.out.block _ (blk_lt HBJ.out)).trans HBJ.out) 0
  have y0 := cell_blk ((HB3.out.block _ (blk_lt HBE.out)).trans HBE.out) 0
  have f0 := free_blk ((HB3.out.block _ (blk_lt HBE.out)).trans HBE.out) 0
  have z0 : w.heap.size + 1 < w3.heap.size := Nat.lt_of_lt_of_le (blk_lt HBE.out) HB3.out.size
  simp only [List.getElem?_toArray, List.getElem?_cons_zero] at x0 y0
  have hn0 : np = 0 := HXL.out
  subst hn0
  go_wp2_with fail
  exact ⟨.int .i64 0, by simp [results, Tryd.results18, go_sem, y0, f0, z0], AppendOut.same HD.out HJ.out HFG.out (below_put HW0.out HB3.out (by omega) _)⟩
end Go.Proofs.YtpdhjfnddnoghaaDoor
