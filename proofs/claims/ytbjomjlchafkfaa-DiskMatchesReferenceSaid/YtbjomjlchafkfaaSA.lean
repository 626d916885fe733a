/- The reference's disk in memory, refining the same plain data; its zero, set, settle.
   Conditions: it lies in memory as RCells says. -/
import Derived.Test.YtbjomjlchafkfaaDU
namespace Go.Proofs.Ytbjomjlchafkfaa
open Go.RowKit Go.Lib
set_option linter.unusedVariables false

def pCell (x : Nat × ByteArray) : List Value := [.int .i64 (x.1 : Int), .string x.2]
def pCells (q : List (Nat × ByteArray)) : List Value := q.flatMap pCell
theorem pCells_length (q : List (Nat × ByteArray)) : (pCells q).length = q.length * 2 := by
  induction q with
  | nil => rfl
  | cons a q ih => simp only [pCells, List.flatMap_cons, List.length_append, List.length_cons, pCell, List.length_nil] at *; omega
theorem pCells_append (a b : List (Nat × ByteArray)) : pCells (a ++ b) = pCells a ++ pCells b := by simp [pCells]

structure RCells (w : World) (p : Nat) (sv pv : Value) (a x y : Int) (st : DS) : Prop where
  dp : w.heap[p]? = some (.cells #[sv, pv, .bool (!st.off), .bool st.armed.isSome, .int .i64 a, .int .i64 x, .int .i64 y] 63 (0, 0))
  ds : w.ownsRow 0 9 1 sv st.sect.length (strs st.sect)
  dq : w.ownsRow 0 72 2 pv st.queue.length (pCells st.queue)
  nm : ∀ t, st.armed = some t → t = (a, x, y)
  wf : st.WF

def RefAt (w : World) (F : Nat → Prop) (p : Nat) (st : DS) : Prop :=
  ∃ sv pv a x y, RCells w p sv pv a x y st ∧ F p ∧ (∀ k, sv.ownBlock = some k → F k) ∧ (∀ k, pv.ownBlock = some k → F k) ∧ ∀ k, F k → k < w.heap.size

theorem RCells.p7 {w : World} {p : Nat} {sv pv : Value} {a x y : Int} {st : DS} (h : RCells w p sv pv a x y st) :
    w.cell? ⟨p, 0, none⟩ = some sv ∧ w.cell? ⟨p, 1, none⟩ = some pv ∧ w.cell? ⟨p, 2, none⟩ = some (.bool (!st.off)) ∧ w.cell? ⟨p, 3, none⟩ = some (.bool st.armed.isSome) ∧
    w.cell? ⟨p, 4, none⟩ = some (.int .i64 a) ∧ w.cell? ⟨p, 5, none⟩ = some (.int .i64 x) ∧ w.cell? ⟨p, 6, none⟩ = some (.int .i64 y) ∧ (∀ o, w.frozen? ⟨p, o, none⟩ = false) ∧ p < w.heap.size :=
  ⟨cell_blk h.dp 0, cell_blk h.dp 1, cell_blk h.dp 2, cell_blk h.dp 3, cell_blk h.dp 4, cell_blk h.dp 5, cell_blk h.dp 6, fun o => free_blk h.dp o, blk_lt h.dp⟩
theorem RCells.same {w w' : World} {p : Nat} {sv pv : Value} {a x y : Int} {st : DS} (h : RCells w p sv pv a x y st) (hb : ∀ k, k = p ∨ sv.ownBlock = some k ∨ pv.ownBlock = some k → w'.heap[k]? = w.heap[k]?) : RCells w' p sv pv a x y st :=
  ⟨by rw [hb p (.inl rfl)]; exact h.dp, own_same h.ds fun k hk => hb k (.inr (.inl hk)), own_same h.dq fun k hk => hb k (.inr (.inr hk)), h.nm, h.wf⟩
theorem RCells.below {w w' : World} {p : Nat} {sv pv : Value} {a x y : Int} {st : DS} (h : RCells w p sv pv a x y st) (hb : Below w.heap.size w w') : RCells w' p sv pv a x y st :=
  h.same fun k hk => hb.block k (by rcases hk with rfl | hk | hk; exact blk_lt h.dp; exact (h.ds.lt k hk).2; exact (h.dq.lt k hk).2)
theorem RefAt.below {w w' : World} {F : Nat → Prop} {p : Nat} {st : DS} (h : RefAt w F p st) (hb : Below w.heap.size w w') : RefAt w' F p st := by
  obtain ⟨sv, pv, a, x, y, hc, h1, h2, h3, h5⟩ := h
  exact ⟨sv, pv, a, x, y, hc.below hb, h1, h2, h3, fun k hk => Nat.lt_of_lt_of_le (h5 k hk) hb.size⟩
theorem RefAt.apart {w w' : World} {F G : Nat → Prop} {p : Nat} {st : DS} (h : RefAt w F p st) (hb : Upd G w w') (hn : ∀ k, F k → ¬ G k) : RefAt w' F p st := by
  obtain ⟨sv, pv, a, x, y, hc, h1, h2, h3, h5⟩ := h
  refine ⟨sv, pv, a, x, y, hc.same fun k hk => ?_, h1, h2, h3, fun k hk => Nat.lt_of_lt_of_le (h5 k hk) hb.size⟩
  have hF : F k := by
    rcases hk with rfl | hk | hk
    · exact h1
    · exact h2 k hk
    · exact h3 k hk
  exact hb.block k (h5 k hF) (hn k hF)
theorem RefAt.wf {w : World} {F : Nat → Prop} {p : Nat} {st : DS} (h : RefAt w F p st) : st.WF := by
  obtain ⟨sv, pv, a, x, y, hc, _⟩ := h
  exact hc.wf
theorem RefAt.lt {w : World} {F : Nat → Prop} {p : Nat} {st : DS} (h : RefAt w F p st) : ∀ k, F k → k < w.heap.size := by
  obtain ⟨sv, pv, a, x, y, hc, h1, h2, h3, h5⟩ := h
  exact h5

def RTurns (w : World) (F : Nat → Prop) (p : Nat) (st' : DS) (v : Value) (e : Ending) (w' : World) : Prop :=
  e = .returned v ∧ ∃ F', RefAt w' F' p st' ∧ Upd F w w' ∧ ∀ k, F' k → F k ∨ w.heap.size ≤ k
theorem RTurns.since {w0 w w' : World} {F : Nat → Prop} {p : Nat} {st : DS} {v : Value} {e : Ending} (h : RTurns w F p st v e w') (h0 : Upd F w0 w) : RTurns w0 F p st v e w' := by
  obtain ⟨he, F', hd, hu, hF⟩ := h
  exact ⟨he, F', hd, h0.trans hu fun i hi => .inl hi, fun k hk => (hF k hk).imp id fun h => Nat.le_trans h0.size h⟩
theorem RTurns.self {w w' : World} {F : Nat → Prop} {p : Nat} {st : DS} {v : Value} (h : RefAt w F p st) (hb : Below w.heap.size w w') : RTurns w F p st v (.returned v) w' :=
  ⟨rfl, F, h.below hb, Upd.of_below hb F, fun k hk => .inl hk⟩
theorem RTurns.from_box {w w1 w' : World} {F : Nat → Prop} {p : Nat} {st : DS} {v : Value} {e : Ending} (hb : Below w.heap.size w w1) (h : RTurns w1 F p st v e w') : RTurns w F p st v e w' :=
  h.since (Upd.of_below hb F)
theorem RTurns.as {w w' : World} {F : Nat → Prop} {p : Nat} {st : DS} {v v' : Value} {e : Ending} (h : RTurns w F p st v e w') : RTurns w F p st v' (.returned v') w' := ⟨rfl, h.2⟩
theorem RTurns.alloc {w w' : World} {F : Nat → Prop} {p : Nat} {st : DS} {v : Value} {e : Ending} (h : RTurns w F p st v e w') (o : Obj) : RTurns w F p st v e (w'.alloc o) := by
  obtain ⟨he, F', hd, hu, hF⟩ := h
  exact ⟨he, F', hd.below ((Below.refl _ _).alloc (Nat.le_refl _) _), hu.alloc o, hF⟩
theorem RTurns.drew {w w' : World} {F : Nat → Prop} {p : Nat} {st : DS} {v : Value} {e : Ending} (h : RTurns w F p st v e w') : RTurns w F p st v e w'.drew := by
  obtain ⟨he, F', hd, hu, hF⟩ := h
  exact ⟨he, F', hd.below ⟨rfl, rfl, rfl, Nat.le_refl _, fun _ _ => rfl⟩, hu.drew, hF⟩
theorem RTurns.after {w w1 w' : World} {F F1 : Nat → Prop} {p : Nat} {st : DS} {v : Value} {e : Ending} (h0 : Upd F w w1) (hF : ∀ k, F1 k → F k ∨ w.heap.size ≤ k) (h : RTurns w1 F1 p st v e w') : RTurns w F p st v e w' := by
  obtain ⟨he, F', hd, hu, hF'⟩ := h
  refine ⟨he, F', hd, h0.trans hu hF, fun k hk => ?_⟩
  rcases hF' k hk with h1 | h1
  · exact hF k h1
  · exact .inr (Nat.le_trans h0.size h1)

/-! ### rows -/
theorem row_form {w : World} {base : Nat} {e : TypeId} {size n : Nat} {v : Value} {xs : List Value} (h : w.ownsRow base e size v n xs) : ∃ A cap, v = .slice A n cap := by
  rcases h.2 with ⟨h1, h2⟩ | ⟨g, cap, cur, h1, _⟩
  · exact ⟨none, 0, by rw [h1, h2]⟩
  · exact ⟨_, cap, h1⟩
theorem strs_set (xs : List ByteArray) (k : Nat) (t : ByteArray) : strs (xs.set k t) = (strs xs).set k (.string t) := by simp [strs, List.map_set]
theorem strs_at {w : World} {base g n cap : Nat} {xs : List ByteArray} (h : w.ownsRow base 9 1 (.slice (some ⟨g, 0, none⟩) n cap) n (strs xs)) (k : Nat) (hk : k < xs.length) : w.cell? ⟨g, k, none⟩ = some (.string xs[k]) := by
  have hl := h.1
  have : (strs xs).length = xs.length := by simp [strs]
  rw [h.cellAt k (by omega)]
  simp [strs, hk]
theorem pend2 {w : World} {base g n cap : Nat} {q : List (Nat × ByteArray)} (h : w.ownsRow base 72 2 (.slice (some ⟨g, 0, none⟩) n cap) n (pCells q)) (k : Nat) (hk : k < q.length) :
    w.cell? ⟨g, k * 2, none⟩ = some (.int .i64 (q[k].1 : Int)) ∧ w.cell? ⟨g, k * 2 + 1, none⟩ = some (.string q[k].2) := by
  have hl := h.1
  rw [pCells_length] at hl
  have e : pCells q = pCells (q.take k) ++ (pCell q[k] ++ pCells (q.drop (k + 1))) := by
    refine (congrArg pCells (list_split q k hk)).trans ?_
    rw [pCells_append]
    rfl
  have hl2 : (pCells (q.take k)).length = k * 2 := by rw [pCells_length, List.length_take]; omega
  constructor
  · rw [h.cellAt _ (by omega), e, List.getElem?_append_right (by omega), hl2, Nat.sub_self]
    rfl
  · rw [h.cellAt _ (by omega), e, List.getElem?_append_right (by omega), hl2, show k * 2 + 1 - k * 2 = 1 from by omega]
    rfl

/-! ### zero -/
def zeros (k : Nat) : ByteArray := ⟨(List.replicate k (0 : UInt8)).toArray⟩
theorem zeros_succ (k : Nat) : zeros k ++ ⟨#[0]⟩ = zeros (k + 1) := by
  apply WideShapes.bytes_inj
  rw [ByteArray.data_append]
  simp [zeros, List.replicate_succ']
theorem zeros_size (k : Nat) : (zeros k).size = k := by simp [zeros, ByteArray.size]
theorem zero_calls (w : World) : Calls Try.prog 32 #[.int .i64 64] w fun e w' => e = .returned (.string zeroB) ∧ w = w' := by
  go_enter Try.func32, Try.ntmps32
  go_wp2
  go_loopw [3, 4] (fun s i wr => ∃ k : Nat, k ≤ 64 ∧ i = .int .i64 k ∧ s = .string (zeros k) ∧ wr = w) (fun _ i _ => 64 - (intOf i).toNat)
  case atStart => exact ⟨0, Nat.zero_le _, rfl, rfl, rfl⟩
  case round =>
    obtain ⟨k, hk, rfl, rfl, rfl⟩ := hrel
    by_cases hlt : k < 64
    · have z0 := zeros_size k
      go_wp2_with fail
      go_roundw
      case rel => exact ⟨k + 1, by omega, by go_num, by rw [← zeros_succ], True.intro⟩
      case measure => simp [intOf]; omega
    · obtain rfl : k = 64 := by omega
      go_wp2_with fail
      go_ret
      exact ⟨rfl, rfl⟩

/-! ### set -/
def RSet (w : World) (p : Nat) (sv pv : Value) (a x y : Int) (st : DS) (e : Ending) (w' : World) : Prop := e = .returned (.tuple #[]) ∧ RCells w' p sv pv a x y st ∧ w.grownBy w' sv.ownBlock
theorem rset_fin {w : World} {p g n cap : Nat} {pv : Value} {a x y : Int} {st : DS} (h : RCells w p (.slice (some ⟨g, 0, none⟩) n cap) pv a x y st) (i : Nat) (hi : i < st.sect.length) (t : ByteArray) (ht : t.size = 64) :
    RSet w p (.slice (some ⟨g, 0, none⟩) n cap) pv a x y { st with sect := st.sect.set i t } (.returned (.tuple #[])) (w.setCell ⟨g, i, none⟩ (.string t)) := by
  obtain ⟨c, hc⟩ := own_type h.ds (k := g) rfl
  have hgp : g ≠ p := ne_of_type hc h.dp (by decide)
  obtain ⟨A, cap', e⟩ := row_form h.ds
  injection e with e1 e2 e3
  subst e2
  have hs := (h.ds.stored i (.string t)).1
  rw [← strs_set] at hs
  refine ⟨rfl, ⟨?_, ?_, own_same h.dq fun k hk => Below.heap_setCell _ _ _ _ ?_, h.nm, ?_⟩, grownBy_setCell _ _ _ _⟩
  · rw [Below.heap_setCell _ _ _ _ (Ne.symm hgp)]; exact h.dp
  · show World.ownsRow _ _ _ _ _ (st.sect.set i t).length _
    rw [List.length_set]; exact hs
  · obtain ⟨c', hc'⟩ := own_type h.dq hk
    exact ne_of_type hc' hc (by decide)
  · refine ⟨by simpa using h.wf.n1, by simpa using h.wf.n2, fun z hz => ?_, fun z hz => by simpa using h.wf.q64 z hz, h.wf.ar⟩
    rcases List.mem_or_eq_of_mem_set hz with h1 | h1
    · exact h.wf.s64 z h1
    · rw [h1]; exact ht
theorem rset_calls {w : World} {p : Nat} {sv pv : Value} {a x y : Int} {st : DS} (h : RCells w p sv pv a x y st) (i : Nat) (hi : i < st.sect.length) (t : ByteArray) (ht : t.size = 64) :
    Calls Try.prog 47 #[.pointer (some ⟨p, 0, none⟩), .int .i64 i, .string t] w (RSet w p sv pv a x y { st with sect := st.sect.set i t }) := by
  obtain ⟨g, cap, hsv, _, hgs⟩ := h.ds.form (by omega)
  subst hsv
  obtain ⟨c0, c1, c2, c3, c4, c5, c6, c7, c8⟩ := h.p7
  have z1 := strs_at h.ds i hi
  have z2 : ∀ o, w.frozen? ⟨g, o, none⟩ = false := fun o => h.ds.frozenAt o
  have HC := Lib.hid h
  have HT := Lib.hid ht
  clear h ht c1 c2 c3 c4 c5 c6
  go_enter Try.func47, Try.ntmps47
  go_wp2_with fail
  go_end0
  exact rset_fin HC.out i hi t HT.out

/-! ### settle -/
theorem settle_snoc (s : List ByteArray) (q : List (Nat × ByteArray)) (k : Nat) (hk : k < q.length) : settle s (q.take (k + 1)) = (settle s (q.take k)).set q[k].1 q[k].2 := by
  rw [List.take_succ_eq_append_getElem hk, settle_append]
  rfl
set_option maxHeartbeats 400000 in
theorem rsettle_calls {w : World} {p : Nat} {sv pv : Value} {a x y : Int} {st : DS} (h : RCells w p sv pv a x y st) (n : Nat) (hn : n ≤ st.queue.length) (hql : st.queue.length ≤ 1000000) :
    Calls Try.prog 46 #[.pointer (some ⟨p, 0, none⟩), .int .i64 n] w (RSet w p sv pv a x y { st with sect := settle st.sect (st.queue.take n) }) := by
  have HQ := Lib.hid h.wf.q64
  go_enter Try.func46, Try.ntmps46
  go_wp2
  go_loopw [4] (fun i wr => ∃ k : Nat, k ≤ n ∧ i = .int .i64 k ∧ RCells wr p sv pv a x y { st with sect := settle st.sect (st.queue.take k) } ∧ w.grownBy wr sv.ownBlock) (fun i _ => n - (intOf i).toNat)
  case atStart => exact ⟨0, Nat.zero_le _, rfl, by simpa [settle] using h, World.grownBy.refl _ _⟩
  case round =>
    obtain ⟨k, hk, rfl, hc, hg⟩ := hrel
    by_cases hlt : k < n
    · have hkq : k < st.queue.length := by omega
      have hdq : wr.ownsRow 0 72 2 pv st.queue.length (pCells st.queue) := hc.dq
      obtain ⟨g, cap, hpv, hgl, hgs⟩ := hdq.form (by omega)
      subst hpv
      obtain ⟨x0, x1⟩ := pend2 hdq k hkq
      obtain ⟨c0, c1, c2, c3, c4, c5, c6, c7, c8⟩ := hc.p7
      have hx := HQ.out st.queue[k] (List.getElem_mem hkq)
      have hx1 : st.queue[k].1 < (settle st.sect (st.queue.take k)).length := by rw [settle_length]; exact hx.1
      have HX := Lib.hid hx.2
      have HX1 := Lib.hid hx1
      have HE := Lib.hid (settle_snoc st.sect st.queue k hkq)
      have HC := Lib.hid hc
      have HG := Lib.hid hg
      clear hx hx1 hc hg hdq c0 c2 c3 c4 c5 c6 hgl
      go_wp2_with fail
      go_region_with (go_at_call 47; refine (rset_calls (HC.out.below (below_drew (Below.refl _ _))) st.queue[k].1 HX1.out st.queue[k].2 HX.out).mono ?_; rintro e w1 ⟨rfl, hc1, hg1⟩)
      all_goals
        have HC1 := Lib.hid hc1
        have HG1 := Lib.hid (World.grownBy.trans HG.out (World.grownBy.trans (show wr.grownBy wr.drew sv.ownBlock from ⟨rfl, rfl, rfl, Nat.le_refl _, fun _ _ _ => rfl⟩) hg1))
        clear hc1 hg1
        go_wp2
        go_roundw
        case rel => exact ⟨k + 1, by omega, by go_num, by have := HC1.out; rw [HE.out]; exact this, HG1.out⟩
        case measure => simp [intOf]; omega
    · obtain rfl : k = n := by omega
      go_wp2
      go_end0
      exact ⟨rfl, hc, hg⟩
end Go.Proofs.Ytbjomjlchafkfaa
