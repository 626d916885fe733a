/- The journal's Append at every state; words for the laws' walks; the laws' light.
   Conditions: the disk, the journal, the texts, the operations lie in memory. -/
import Derived.Test.YtpdhjfnddnoghaaDoorJW
namespace Go.Proofs.YtpdhjfnddnoghaaDoor
open Go.RowKit Go.Lib
set_option linter.unusedVariables false
set_option linter.unusedSimpArgs false

theorem append_calls {w : World} {F G : Nat → Prop} (hlu : ∀ W, Upd F w W → LaidJ W) {d j : Nat} {st : DS} {js : JSt} (hd : DiskAt w F d st) (hj : JAt w G j d js) (hFG : ∀ k, G k → ¬ F k) (v : Value) (xs : List ByteArray) (hvo : TextsOut w (fun k => F k ∨ G k) v xs) (hsm : Small xs)
    (htl : (textL xs).length ≤ 1000000 ∨ tooLong xs = true) (hs4 : js.sectors ≤ 1000) (hcn : js.count + 2 ≤ js.sectors) (hql : st.queue.length ≤ 80000) (hrl : js.recs.length ≤ 100000) :
    Calls Tryd.prog 18 #[.pointer (some ⟨j, 0, none⟩), v] w (AppendOut w F G d j (appendM st js xs)) := by
  have hl := hlu w (Upd.refl _ _)
  have hv := hvo.at_
  cases hb : js.broken with
  | true =>
    have e : appendM st js xs = (st, js, 12) := broken_append js hb xs
    rw [e]
    exact append_broken hd hj hFG hb v
  | false =>
    cases ht : tooLong xs with
    | true =>
      have e : appendM st js xs = (st, js, 2) := by unfold appendM; rw [hb, ht, if_neg (by simp), if_pos rfl]
      rw [e]
      exact append_long hl hd hj hFG hb v xs hv hsm ht
    | false =>
      have htl' : (textL xs).length ≤ 1000000 := by
        rcases htl with h | h
        · exact h
        · rw [ht] at h; cases h
      by_cases hr : js.room < ((piecesL (textL xs)).length : Int)
      · have e : appendM st js xs = (st, js, 28) := by unfold appendM; rw [hb, ht, if_neg (by simp), if_neg (by simp), if_pos hr]
        rw [e]
        exact append_full hl hd hj hFG hb v xs hv hsm ht htl' (by omega) (by omega) hr
      · by_cases h0 : xs = []
        · have e : appendM st js xs = (st, js, 0) := by unfold appendM; rw [hb, ht, if_neg (by simp), if_neg (by simp), if_neg hr, if_pos h0]
          rw [e]
          subst h0
          exact append_empty hl hd hj hFG hb v hv (by omega) (by omega) (by unfold JSt.room; omega)
        · exact append_main hlu hd hj hFG hb v xs hvo hsm ht htl' hs4 (by unfold JSt.room at hr; omega) h0 hql hrl

/-! ### what stays -/
/-- a call has turned the disk: of its blocks and of new ones alone -/
structure Kept (F : Nat → Prop) (w w' : World) (F' : Nat → Prop) : Prop where
  up : Upd F w w'
  old : ∀ i, F' i → F i ∨ w.heap.size ≤ i
theorem Kept.below {F : Nat → Prop} {w w' : World} (hb : Below w.heap.size w w') : Kept F w w' F := ⟨Upd.of_below hb F, fun i hi => .inl hi⟩
theorem Kept.turns {F : Nat → Prop} {w w' : World} {p : Nat} {st : DS} {v : Value} {e : Ending} (h : Turns w F p st v e w') : e = .returned v ∧ ∃ F', DiskAt w' F' p st ∧ Kept F w w' F' := by
  obtain ⟨he, F', hd, hu, hF⟩ := h
  exact ⟨he, F', hd, hu, hF⟩
theorem JAt.lt {w : World} {G : Nat → Prop} {j d : Nat} {js : JSt} (h : JAt w G j d js) : ∀ k, G k → k < w.heap.size := by
  obtain ⟨rv, h1, h2, h3, h4, h5⟩ := h
  exact h5
theorem JAt.kept {F F' G : Nat → Prop} {w w' : World} {j d : Nat} {js : JSt} (h : JAt w G j d js) (hk : Kept F w w' F') (hG : ∀ k, G k → ¬ F k) : JAt w' G j d js ∧ ∀ k, G k → ¬ F' k := by
  refine ⟨h.apart hk.up hG, fun k hk1 hk2 => ?_⟩
  rcases hk.old k hk2 with h1 | h1
  · exact hG k hk1 h1
  · have := h.lt k hk1; omega
theorem TextsOut.kept {F F' : Nat → Prop} {w w' : World} {v : Value} {xs : List ByteArray} (h : TextsOut w F v xs) (hk : Kept F w w' F') : TextsOut w' F' v xs := by
  obtain ⟨A, cap, rfl, h⟩ := h
  refine ⟨A, cap, rfl, fun hp => ?_⟩
  obtain ⟨b, off, rfl, hb, hF, hc⟩ := h hp
  refine ⟨b, off, rfl, Nat.lt_of_lt_of_le hb hk.up.size, fun h1 => ?_, fun k hk1 => (hk.up.cell (p := ⟨b, off + k, none⟩) hb hF).trans (hc k hk1)⟩
  rcases hk.old b h1 with h2 | h2
  · exact hF h2
  · omega
theorem TextsOut.new {F : Nat → Prop} {w w' : World} {v : Value} {xs : List ByteArray} {n B : Nat} (h : w'.ownsRow B 9 1 v n (strs xs)) (hF : ∀ k, F k → k < B) : TextsOut w' F v xs := TextsOut.of_own h fun g hg h1 => by have := (h.lt g hg).1; have := hF g h1; omega
/-- the disk of the law's own -/
structure Own (B : Nat) (w0 w : World) (F : Nat → Prop) (d : Nat) (st : DS) : Prop where
  dk : DiskAt w F d st
  lo : ∀ k, F k → B ≤ k
  be : Below B w0 w
  sz : B ≤ w.heap.size
theorem Own.kept {B : Nat} {w0 w w' : World} {F F' : Nat → Prop} {d : Nat} {st st' : DS} (h : Own B w0 w F d st) (hk : Kept F w w' F') (hd : DiskAt w' F' d st') : Own B w0 w' F' d st' := by
  refine ⟨hd, fun k hk1 => ?_, h.be.trans (hk.up.below h.lo h.sz), Nat.le_trans h.sz hk.up.size⟩
  rcases hk.old k hk1 with h1 | h1
  · exact h.lo k h1
  · exact Nat.le_trans h.sz h1
theorem Own.below {B : Nat} {w0 w w' : World} {F : Nat → Prop} {d : Nat} {st : DS} (h : Own B w0 w F d st) (hb : Below w.heap.size w w') : Own B w0 w' F d st := h.kept (Kept.below hb) (h.dk.below hb)
theorem Own.laid {B : Nat} {w0 w : World} {F : Nat → Prop} {d : Nat} {st : DS} (h : Own B w0 w F d st) (hl : ∀ W, Below B w0 W → LaidJ W) : ∀ W, Upd F w W → LaidJ W := fun W hW => hl W (h.be.trans (hW.below h.lo h.sz))
theorem Own.lt {B : Nat} {w0 w : World} {F : Nat → Prop} {d : Nat} {st : DS} (h : Own B w0 w F d st) : ∀ k, F k → k < w.heap.size := h.dk.lt
/-- behind Open -/
theorem Own.open {B : Nat} {w0 w w' : World} {F : Nat → Prop} {d : Nat} {st : DS} {e : Ending} (h : Own B w0 w F d st) (ho : OpenOut w F d st e w') :
    ∃ F', Kept F w w' F' ∧ Own B w0 w' F' d st.openM.1 ∧ ((st.openM.2.1 = none ∧ e = .returned (.tuple #[.pointer none, .slice none 0 0, .int .i64 st.openM.2.2])) ∨
      ∃ js j G lv, st.openM.2.1 = some js ∧ e = .returned (.tuple #[.pointer (some ⟨j, 0, none⟩), lv, .int .i64 st.openM.2.2]) ∧ JAt w' G j d js ∧ (∀ k, G k → ¬ F' k) ∧ (∀ k, G k → w.heap.size ≤ k) ∧ TextsOut w' F' lv js.recs ∧ TextsOut w' (fun k => F' k ∨ G k) lv js.recs) := by
  obtain ⟨jv, lv, rfl, F', hd, hu, hF, hm⟩ := ho
  refine ⟨F', ⟨hu, hF⟩, h.kept ⟨hu, hF⟩ hd, ?_⟩
  cases hj : st.openM.2.1 with
  | none =>
    rw [hj] at hm
    obtain ⟨rfl, rfl⟩ := hm
    exact .inl ⟨rfl, rfl⟩
  | some js =>
    rw [hj] at hm
    obtain ⟨j, G, rfl, hja, hg1, hg2, hown, hlv⟩ := hm
    exact .inr ⟨js, j, G, lv, rfl, rfl, hja, hg2, hg1, TextsOut.of_own hown fun g hg => (hlv g hg).1, TextsOut.of_own hown fun g hg h1 => h1.elim (hlv g hg).1 (hlv g hg).2⟩
/-- behind Append -/
theorem Own.app {B : Nat} {w0 w w' : World} {F G : Nat → Prop} {d j : Nat} {st : DS} {js : JSt} {r : DS × JSt × Int} {e : Ending} (h : Own B w0 w F d st) (hj : JAt w G j d js) (hGB : ∀ k, G k → B ≤ k) (ho : AppendOut w F G d j r e w') :
    e = .returned (.int .i64 r.2.2) ∧ ∃ F' G', Own B w0 w' F' d r.1 ∧ JAt w' G' j d r.2.1 ∧ (∀ k, G' k → ¬ F' k) ∧ (∀ k, G' k → B ≤ k) ∧ (∀ k, F' k → F k ∨ w.heap.size ≤ k) ∧ (∀ k, G' k → G k ∨ w.heap.size ≤ k) ∧ Upd (fun k => F k ∨ G k) w w' := by
  obtain ⟨rfl, F', G', hd, hj', hu, hF, hG, hGF⟩ := ho
  refine ⟨rfl, F', G', ⟨hd, fun k hk => ?_, h.be.trans (hu.below (fun k hk => hk.elim (h.lo k) (hGB k)) h.sz), Nat.le_trans h.sz hu.size⟩, hj', hGF, fun k hk => ?_, hF, hG, hu⟩
  · rcases hF k hk with h1 | h1
    · exact h.lo k h1
    · exact Nat.le_trans h.sz h1
  · rcases hG k hk with h1 | h1
    · exact hGB k h1
    · exact Nat.le_trans h.sz h1
/-! ### the operations -/
structure Op0 where
  kind : Int
  lv : Value
  recs : List ByteArray
  at_ : Int
  writes : Int
  bytes : Int
def Op0.cells (o : Op0) : List Value := [.int .i64 o.kind, o.lv, .int .i64 o.at_, .int .i64 o.writes, .int .i64 o.bytes]
/-- texts below block B -/
def TextsIn (B : Nat) (w : World) (v : Value) (xs : List ByteArray) : Prop :=
  ∃ A cap, v = .slice A xs.length cap ∧ (0 < xs.length → ∃ b off, A = some ⟨b, off, none⟩ ∧ b < B ∧ ∀ k (h : k < xs.length), w.cell? ⟨b, off + k, none⟩ = some (.string xs[k]))
theorem TextsIn.below {B : Nat} {w w' : World} {v : Value} {xs : List ByteArray} (h : TextsIn B w v xs) (hb : Below B w w') : TextsIn B w' v xs := by
  obtain ⟨A, cap, rfl, h⟩ := h
  refine ⟨A, cap, rfl, fun hp => ?_⟩
  obtain ⟨b, off, rfl, hlt, hc⟩ := h hp
  exact ⟨b, off, rfl, hlt, fun k hk => (hb.cell (p := ⟨b, off + k, none⟩) hlt).trans (hc k hk)⟩
theorem TextsIn.out {B : Nat} {w : World} {F : Nat → Prop} {v : Value} {xs : List ByteArray} (h : TextsIn B w v xs) (hB : B ≤ w.heap.size) (hF : ∀ k, F k → B ≤ k) : TextsOut w F v xs := by
  obtain ⟨A, cap, rfl, h⟩ := h
  refine ⟨A, cap, rfl, fun hp => ?_⟩
  obtain ⟨b, off, rfl, hlt, hc⟩ := h hp
  exact ⟨b, off, rfl, Nat.lt_of_lt_of_le hlt hB, fun h1 => by have := hF b h1; omega, hc⟩
structure OpsArg (B : Nat) (w : World) (v : Value) (l : List Op0) : Prop where
  len : l.length ≤ 9223372036854775807
  ex : ∃ A cap, v = .slice A l.length cap ∧ (0 < l.length → ∃ b off, A = some ⟨b, off, none⟩ ∧ b < B ∧ ∀ k (h : k < l.length) j x, l[k].cells[j]? = some x → w.cell? ⟨b, off + k * 5 + j, none⟩ = some x)
  txt : ∀ o ∈ l, TextsIn B w o.lv o.recs
  nums : ∀ o ∈ l, i64ok o.at_ ∧ i64ok o.writes ∧ i64ok o.bytes ∧ i64ok o.kind ∧ o.recs.length ≤ 9223372036854775807 ∧ ∀ x ∈ o.recs, x.size ≤ 140737488355328
theorem OpsArg.below {B : Nat} {w w' : World} {v : Value} {l : List Op0} (h : OpsArg B w v l) (hb : Below B w w') : OpsArg B w' v l := by
  obtain ⟨h1, ⟨A, cap, rfl, h2⟩, h3, h4⟩ := h
  refine ⟨h1, ⟨A, cap, rfl, fun hp => ?_⟩, fun o ho => (h3 o ho).below hb, h4⟩
  obtain ⟨b, off, rfl, hlt, hc⟩ := h2 hp
  exact ⟨b, off, rfl, hlt, fun k hk j x hx => (hb.cell (p := ⟨b, off + k * 5 + j, none⟩) hlt).trans (hc k hk j x hx)⟩
theorem OpsArg.more {B B' : Nat} {w : World} {v : Value} {l : List Op0} (h : OpsArg B w v l) (hB : B ≤ B') : OpsArg B' w v l := by
  obtain ⟨h1, ⟨A, cap, rfl, h2⟩, h3, h4⟩ := h
  refine ⟨h1, ⟨A, cap, rfl, fun hp => ?_⟩, fun o ho => ?_, h4⟩
  · obtain ⟨b, off, rfl, hlt, hc⟩ := h2 hp
    exact ⟨b, off, rfl, by omega, hc⟩
  · obtain ⟨A, cap, e, h⟩ := h3 o ho
    refine ⟨A, cap, e, fun hp => ?_⟩
    obtain ⟨b, off, e2, hlt, hc⟩ := h hp
    exact ⟨b, off, e2, by omega, hc⟩
def sizesN (xs : List ByteArray) : Nat := (xs.map fun x => x.size).sum
def weightN (l : List Op0) : Nat := (l.map fun o => sizesN o.recs).sum
structure Light (n : Int) (l : List Op0) : Prop where
  n40 : n ≤ 40
  l16 : l.length ≤ 16
  r20 : ∀ o ∈ l, o.recs.length ≤ 20
  sum : weightN l ≤ 6000
def LightOut (n : Int) (l : List Op0) (w : World) (e : Ending) (w' : World) : Prop := ∃ b : Bool, e = .returned (.bool b) ∧ (b = true → Light n l) ∧ w = w'
theorem sizesN_snoc (xs : List ByteArray) (k : Nat) (h : k < xs.length) : sizesN (xs.take (k + 1)) = sizesN (xs.take k) + xs[k].size := by
  unfold sizesN
  rw [List.take_succ_eq_append_getElem h, List.map_append, List.sum_append]
  simp
theorem weightN_snoc (l : List Op0) (k : Nat) (h : k < l.length) : weightN (l.take (k + 1)) = weightN (l.take k) + sizesN l[k].recs := by
  unfold weightN
  rw [List.take_succ_eq_append_getElem h, List.map_append, List.sum_append]
  simp
set_option maxRecDepth 100000 in
set_option maxHeartbeats 4000000 in
theorem light_calls (w : World) {B : Nat} (n : Int) (hn : i64ok n) (v : Value) (l : List Op0) (h : OpsArg B w v l) :
    Calls Tryd.prog 9 #[.int .i64 n, v] w (LightOut n l w) := by
  obtain ⟨A, cap, rfl, hA⟩ := h.ex
  have HA := Lib.hid hA
  have HT := Lib.hid h.txt
  have HN := Lib.hid h.nums
  have hlen := h.len
  unfold i64ok at hn
  clear hA h
  by_cases h40 : 40 < n
  · go_enter Tryd.func9, Tryd.ntmps9
    go_wp2_with fail
    go_ret
    exact ⟨false, rfl, (fun h => absurd h (by simp)), rfl⟩
  have h40b : decide (40 < n) = false := decide_eq_false h40
  by_cases h16 : 16 < l.length
  · have h16b : (16 : Int) < (l.length : Int) := by omega
    go_enter Tryd.func9, Tryd.ntmps9
    go_wp2_with fail
    go_ret
    exact ⟨false, rfl, (fun h => absurd h (by simp)), rfl⟩
  have h16c : l.length ≤ 16 := by omega
  have h16b : decide ((16 : Int) < (l.length : Int)) = false := decide_eq_false (by omega)
  clear h16
  go_enter Tryd.func9, Tryd.ntmps9
  go_wp2_with fail
  go_loop [5, 6] (fun t i => ∃ k s : Nat, k ≤ l.length ∧ i = .int .i64 k ∧ t = .int .i64 s ∧ s = weightN (l.take k) ∧ s ≤ 6000 ∧ ∀ o ∈ l.take k, o.recs.length ≤ 20) (fun _ i => l.length - (Go.RowKit.intOf i).toNat)
  case atStart => exact ⟨0, 0, Nat.zero_le _, rfl, rfl, rfl, by omega, by simp⟩
  case round =>
    obtain ⟨k, s, hk, rfl, rfl, hs, hs6, h20⟩ := hrel
    have HS := Lib.hid hs
    have H20 := Lib.hid h20
    clear hs h20
    by_cases hlt : k < l.length
    · obtain ⟨b, off, hAe, hbl, hc⟩ := HA.out (by omega)
      subst hAe
      have hin := List.getElem_mem hlt
      obtain ⟨VA, vcap, hve, hvc⟩ := HT.out _ hin
      have x1 := hc k hlt 1 _ rfl
      have hm := (HN.out _ hin).2.2.2.2
      have hwl := weightN_snoc l k hlt
      obtain ⟨o, ho⟩ : ∃ o, l[k] = o := ⟨_, rfl⟩
      rw [ho] at x1 hve hvc hm hwl
      have HO : Hid (l.take (k + 1) = l.take k ++ [o]) := by show _ = _; rw [List.take_succ_eq_append_getElem hlt, ho]
      obtain ⟨recs, hrecs⟩ : ∃ r, o.recs = r := ⟨_, rfl⟩
      have HREC := Lib.hid hrecs
      rw [hrecs] at hve hvc hm hwl
      rw [hve] at x1
      have HWL := Lib.hid hwl
      have HVC := Lib.hid hvc
      have HSZ := Lib.hid hm.2
      have hrl := hm.1
      have hlt2 : (k : Int) < (l.length : Int) := by omega
      clear hc ho hve hrecs hin hwl hvc hm
      by_cases hr20 : 20 < recs.length
      · have hr20b : (20 : Int) < (recs.length : Int) := by omega
        go_wp2_with fail
        go_ret
        exact ⟨false, rfl, (fun h => absurd h (by simp)), rfl⟩
      have hr20b : decide ((20 : Int) < (recs.length : Int)) = false := decide_eq_false (by omega)
      go_wp2_with fail
      go_loop [5, 7] (fun t i => ∃ m s2 : Nat, m ≤ recs.length ∧ i = .int .i64 m ∧ t = .int .i64 s2 ∧ s2 = s + sizesN (recs.take m) ∧ s2 ≤ 6000) (fun _ i => recs.length - (Go.RowKit.intOf i).toNat)
      case atStart => exact ⟨0, s, Nat.zero_le _, rfl, rfl, rfl, hs6⟩
      case round =>
        obtain ⟨m, s2, hm, rfl, rfl, hs2, hs26⟩ := hrel
        have HS2 := Lib.hid hs2
        clear hs2
        by_cases hlm : m < recs.length
        · obtain ⟨b2, off2, hVe, hb2, hc2⟩ := HVC.out (by omega)
          subst hVe
          have y0 := hc2 m hlm
          have hsn := sizesN_snoc recs m hlm
          have hys := HSZ.out _ (List.getElem_mem hlm)
          obtain ⟨x, hx⟩ : ∃ x, recs[m] = x := ⟨_, rfl⟩
          rw [hx] at y0 hsn hys
          have HSN := Lib.hid hsn
          clear hc2 hx hsn
          have hlm2 : (m : Int) < (recs.length : Int) := by omega
          by_cases hbig : 6000 < s2 + x.size
          · have hbig2 : (6000 : Int) < (s2 : Int) + (x.size : Int) := by omega
            go_wp2_with fail
            go_ret
            exact ⟨false, rfl, (fun h => absurd h (by simp)), rfl⟩
          · have hbig2 : decide ((6000 : Int) < (s2 : Int) + (x.size : Int)) = false := decide_eq_false (by omega)
            have hbig3 : ¬ (6000 : Int) < (s2 : Int) + (x.size : Int) := by omega
            go_wp2_with fail
            go_round
            case rel => exact ⟨m + 1, s2 + x.size, by omega, by go_num, by go_num, by rw [HSN.out, HS2.out]; omega, by omega⟩
            case measure => simp [Go.RowKit.intOf]; omega
        · have hme : m = recs.length := by omega
          go_wp2_with fail
          go_round
          case rel =>
            refine ⟨k + 1, s2, by omega, by go_num, rfl, ?_, hs26, fun o' ho' => ?_⟩
            · rw [HWL.out, ← HS.out, HS2.out, hme, List.take_length]
            · rw [HO.out, List.mem_append] at ho'
              rcases ho' with h | h
              · exact H20.out o' h
              · rw [List.mem_singleton.1 h, HREC.out]; omega
          case measure => simp [Go.RowKit.intOf]; omega
    · have hke : k = l.length := by omega
      have HLI : Hid (Light n l) := by
        have h1 := HS.out
        have h2 := H20.out
        rw [hke, List.take_length] at h1 h2
        exact ⟨by omega, h16c, h2, by omega⟩
      go_wp2_with fail
      go_ret
      exact ⟨true, rfl, fun _ => HLI.out, rfl⟩
end Go.Proofs.YtpdhjfnddnoghaaDoor
