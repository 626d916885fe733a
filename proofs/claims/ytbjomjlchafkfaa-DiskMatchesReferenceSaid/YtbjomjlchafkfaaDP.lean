/- Words for the laws on disks: what an argument is, what stays while a disk is worked on, many operations one after the other.
   Conditions: none. -/
import Derived.Test.YtbjomjlchafkfaaDO
namespace Go.Proofs.Ytbjomjlchafkfaa
open Go.RowKit Go.Lib
set_option linter.unusedVariables false

/-- What an argument's operation is known to be. -/
structure Act0.Read (a : Act0) : Prop where
  k : i64ok a.kind
  s : i64ok a.sector
  b : i64ok a.bytes
  f : i64ok a.after
  t : a.text.size ≤ 9223372036854775807
structure ActsArg (w : World) (A : Option Addr) (l : List Act0) : Prop where
  at_ : ActsAt w A l
  len : l.length ≤ 9223372036854775807
  each : ∀ a ∈ l, a.Read
  lt : 0 < l.length → ∀ a, A = some a → a.block < w.heap.size
theorem ActsArg.below {w w' : World} {A : Option Addr} {l : List Act0} {B : Nat} (h : ActsArg w A l) (hb : Below B w w') (hB : 0 < l.length → ∀ a, A = some a → a.block < B) : ActsArg w' A l :=
  ⟨h.at_.below hb hB, h.len, h.each, fun hp a ha => Nat.lt_of_lt_of_le (h.lt hp a ha) hb.size⟩
theorem ActsArg.later {w w' : World} {A : Option Addr} {l : List Act0} (h : ActsArg w A l) (hb : Below w.heap.size w w') : ActsArg w' A l := h.below hb h.lt

theorem okB_true {l : List Act0} (h : okB l = true) : l.length ≤ 60 ∧ ∀ a ∈ l, a.text.size ≤ 100 := by
  unfold okB at h
  simp only [Bool.and_eq_true, List.all_eq_true, decide_eq_true_eq] at h
  exact ⟨h.2, h.1⟩
theorem ActsArg.ok {w : World} {A : Option Addr} {l : List Act0} (h : ActsArg w A l) (ho : okB l = true) : ∀ a ∈ l, a.Ok := fun a ha => by
  have := h.each a ha
  exact ⟨this.k, this.s, this.b, this.f, (okB_true ho).2 a ha⟩

def DS.acts (st : DS) (l : List Act0) : DS := l.foldl (fun s a => (s.act a).1) st
theorem DS.acts_snoc (st : DS) (l : List Act0) (k : Nat) (hk : k < l.length) : st.acts (l.take (k + 1)) = ((st.acts (l.take k)).act l[k]).1 := by
  unfold DS.acts
  rw [List.take_succ_eq_append_getElem hk, List.foldl_append]
  rfl
theorem DS.fail_queue (st : DS) (a b : Int) : (st.fail a b).queue.length ≤ st.queue.length := by
  unfold DS.fail; split <;> simp
theorem DS.count_qlen (st : DS) : st.count.1.queue.length ≤ st.queue.length := by
  unfold DS.count
  split
  · exact Nat.le_refl _
  · split
    · exact Nat.le_refl _
    · exact st.fail_queue _ _
theorem DS.write_qlen (st : DS) (s : Int) (t : ByteArray) : (st.write s t).1.queue.length ≤ st.queue.length + 1 := by
  unfold DS.write
  split
  · simp
  · split
    · simp
    · split
      · simp
      · exact Nat.le_trans (DS.count_qlen _) (by simp)
theorem DS.sync_qlen (st : DS) : st.sync.1.queue.length ≤ st.queue.length := by
  unfold DS.sync
  split
  · exact Nat.le_refl _
  · split
    · exact Nat.zero_le _
    · exact st.count_qlen
theorem DS.act_qlen (st : DS) (a : Act0) : (st.act a).1.queue.length ≤ st.queue.length + 1 := by
  unfold DS.act
  split
  · exact st.write_qlen _ _
  split
  · simp
  split
  · exact Nat.le_trans st.sync_qlen (by simp)
  split
  · exact Nat.le_trans (st.fail_queue _ _) (by simp)
  split
  · simp [DS.start]
  split
  · unfold DS.arm; split <;> simp
  split
  · unfold DS.rot; split <;> simp
  split <;> simp
theorem DS.act_length (st : DS) (a : Act0) : (st.act a).1.sect.length = st.sect.length := by
  unfold DS.act
  split
  · exact st.write_length _ _
  split
  · rfl
  split
  · exact st.sync_length
  split
  · exact st.fail_length _ _
  split
  · rfl
  split
  · exact st.arm_length _ _ _
  split
  · exact st.rot_length _ _ _
  split <;> rfl
theorem DS.acts_length (st : DS) (l : List Act0) : (st.acts l).sect.length = st.sect.length := by
  induction l generalizing st with
  | nil => rfl
  | cons a l ih => show ((st.act a).1.acts l).sect.length = _; rw [ih, st.act_length]
theorem DS.new_length (n : Nat) : (DS.new n).sect.length = n := by simp [DS.new]

/-! ### what stays -/
structure Keep (F F' : Nat → Prop) (w w' : World) : Prop where
  k : ∀ g, g < w.heap.size → ¬ F g → w'.heap[g]? = w.heap[g]? ∧ ¬ F' g
  s : w.heap.size ≤ w'.heap.size
theorem Keep.trans {F F' F2 : Nat → Prop} {a b c : World} (h : Keep F F' a b) (k : Keep F' F2 b c) : Keep F F2 a c :=
  ⟨fun g hg hF => by
    obtain ⟨h1, h2⟩ := h.k g hg hF
    obtain ⟨h3, h4⟩ := k.k g (Nat.lt_of_lt_of_le hg h.s) h2
    exact ⟨h3.trans h1, h4⟩, Nat.le_trans h.s k.s⟩
theorem Keep.refl (F : Nat → Prop) (w : World) : Keep F F w w := ⟨fun g _ hF => ⟨rfl, hF⟩, Nat.le_refl _⟩
theorem Keep.below {F : Nat → Prop} {w w' : World} (hb : Below w.heap.size w w') : Keep F F w w' := ⟨fun g hg hF => ⟨hb.block g hg, hF⟩, hb.size⟩
theorem Keep.turn {w w' : World} {F F' : Nat → Prop} (hu : Upd F w w') (hF : ∀ k, F' k → F k ∨ w.heap.size ≤ k) : Keep F F' w w' :=
  ⟨fun g hg hn => ⟨hu.block g hg hn, fun h => by rcases hF g h with h1 | h1; exact hn h1; omega⟩, hu.size⟩
theorem Mine.turns {B : Nat} {w0 w w' : World} {F : Nat → Prop} {p : Nat} {st st' : DS} {v : Value} {e : Ending} (h : Mine B w0 w F p st) (t : Turns w F p st' v e w') : e = .returned v ∧ ∃ F', Mine B w0 w' F' p st' ∧ Keep F F' w w' := by
  obtain ⟨he, F', hd, hu, hF⟩ := t
  refine ⟨he, F', ⟨hd, fun k hk => ?_, h.be.trans (hu.below h.lo h.sz), Nat.le_trans h.sz hu.size⟩, Keep.turn hu hF⟩
  rcases hF k hk with h1 | h1
  · exact h.lo k h1
  · exact Nat.le_trans h.sz h1

/-- Texts in memory that a disk's operations do not touch. -/
def StrsOut (w : World) (F : Nat → Prop) (v : Value) (xs : List ByteArray) : Prop :=
  ∃ A cap, v = .slice A xs.length cap ∧ (0 < xs.length → ∃ b, A = some ⟨b, 0, none⟩ ∧ b < w.heap.size ∧ ¬ F b ∧ ∀ k (h : k < xs.length), w.cell? ⟨b, k, none⟩ = some (.string xs[k]))
theorem StrsOut.keep {w w' : World} {F F' : Nat → Prop} {v : Value} {xs : List ByteArray} (h : StrsOut w F v xs) (hk : Keep F F' w w') : StrsOut w' F' v xs := by
  obtain ⟨A, cap, rfl, h⟩ := h
  refine ⟨A, cap, rfl, fun hp => ?_⟩
  obtain ⟨b, rfl, hlt, hF, hc⟩ := h hp
  obtain ⟨h1, h2⟩ := hk.k b hlt hF
  exact ⟨b, rfl, Nat.lt_of_lt_of_le hlt hk.s, h2, fun k hk => (World.cell?_of_block (w := w) (a := ⟨b, k, none⟩) h1).trans (hc k hk)⟩
theorem StrsOut.at_ {w : World} {F : Nat → Prop} {v : Value} {xs : List ByteArray} (h : StrsOut w F v xs) : StrsAt w v xs := by
  obtain ⟨A, cap, rfl, h⟩ := h
  refine ⟨A, cap, rfl, fun hp => ?_⟩
  obtain ⟨b, rfl, hlt, _, hc⟩ := h hp
  exact ⟨b, rfl, hlt, hc⟩
theorem StrsOut.of {B : Nat} {w' : World} {F : Nat → Prop} {v : Value} {xs : List ByteArray} (hown : w'.ownsRow B 9 1 v xs.length (strs xs)) (hF : ∀ k, F k → k < B) : StrsOut w' F v xs := by
  obtain ⟨A, cap, rfl, h⟩ := StrsAt.of_own hown
  refine ⟨A, cap, rfl, fun hp => ?_⟩
  obtain ⟨b, rfl, hlt, hc⟩ := h hp
  exact ⟨b, rfl, hlt, fun hf => by have := hF b hf; have := (hown.lt b rfl).1; omega, hc⟩
theorem Mine.conts {B : Nat} {w0 w w' : World} {F : Nat → Prop} {p : Nat} {st : DS} {xs : List ByteArray} {e : Ending} (h : Mine B w0 w F p st) (t : Conts w xs e w') :
    ∃ v, e = .returned (.tuple #[v, .bool true]) ∧ StrsOut w' F v xs ∧ Mine B w0 w' F p st ∧ Keep F F w w' := by
  obtain ⟨v, he, hown, hb⟩ := t
  obtain ⟨s, qv, av, hc, f1, f2, f3, f4, f5⟩ := h.d
  exact ⟨v, he, StrsOut.of hown f5, h.below hb, Keep.below hb⟩

theorem sizeN_le (raw : Int) (h0 : 0 ≤ raw) : 1 ≤ sizeN raw ∧ sizeN raw ≤ 12 := by unfold sizeN; omega
/-- A disk that was started has no alarm: Sync succeeds. -/
theorem sync_started (st : DS) : st.start.sync = (st.start.syncNow, 0) := by
  unfold DS.sync DS.count DS.start
  simp
theorem StrsOut.cell {w : World} {F : Nat → Prop} {A : Option Addr} {n cap : Nat} {xs : List ByteArray} (h : StrsOut w F (.slice A n cap) xs) (k : Nat) (hk : k < xs.length) : n = xs.length ∧ ∃ b, A = some ⟨b, 0, none⟩ ∧ w.cell? ⟨b, k, none⟩ = some (.string xs[k]) := by
  obtain ⟨A', cap', e, h⟩ := h
  injection e with e1 e2 e3
  subst e1 e2 e3
  obtain ⟨b, rfl, _, _, hc⟩ := h (by omega)
  exact ⟨rfl, b, rfl, hc k hk⟩
theorem StrsOut.form {w : World} {F : Nat → Prop} {v : Value} {xs : List ByteArray} (h : StrsOut w F v xs) : ∃ A cap, v = .slice A xs.length cap := by
  obtain ⟨A, cap, rfl, _⟩ := h
  exact ⟨A, cap, rfl⟩
theorem DS.write_plain {st : DS} (ho : st.off = false) (ha : st.armed = none) (i : Int) (t : ByteArray) :
    st.write i t = if st.valid i = true ∧ t.size = 64 then ({ st with queue := st.queue ++ [(i.toNat, t)] }, 0) else (st, 1) := by
  unfold DS.write
  rw [if_neg (by rw [ho]; decide)]
  by_cases hv : st.valid i = true
  · rw [if_neg (by rw [hv]; decide)]
    by_cases ht : t.size = 64
    · rw [if_neg (by simpa using ht), if_pos ⟨hv, ht⟩]
      unfold DS.count
      simp only [ha]
    · rw [if_pos ht, if_neg (fun h => ht h.2)]
  · rw [if_pos (by simpa using hv), if_neg (fun h => hv h.1)]

/-! ### an operation that the law takes by value: its box -/
structure Boxed (w w0 : World) (x : Act0) : Prop where
  blk : w0.heap[w.heap.size]? = some (.cells x.cells.toArray 34 (0, 0))
  be : Below w.heap.size w w0
  lt : w.heap.size < w0.heap.size
theorem Boxed.of (w : World) (x : Act0) : Boxed w (w.alloc (.cells x.cells.toArray 34)) x :=
  ⟨heap_alloc_new _ _, (Below.refl _ _).alloc (Nat.le_refl _) _, by simp⟩
theorem fin0 {w w0 w' : World} {x : Act0} (h : Boxed w w0 x) (hb : Below w0.heap.size w0 w') : Below w.heap.size w w' := h.be.trans (hb.mono (Nat.le_of_lt h.lt))
theorem Boxed.six {w w0 w' : World} {x : Act0} (h : Boxed w w0 x) (hb : Below w0.heap.size w0 w') :
    w'.cell? ⟨w.heap.size, 0, none⟩ = some (.int .i64 x.kind) ∧ w'.cell? ⟨w.heap.size, 1, none⟩ = some (.int .i64 x.sector) ∧ w'.cell? ⟨w.heap.size, 2, none⟩ = some (.int .i64 x.bytes) ∧
    w'.cell? ⟨w.heap.size, 3, none⟩ = some (.string x.text) ∧ w'.cell? ⟨w.heap.size, 4, none⟩ = some (.bool x.odd) ∧ w'.cell? ⟨w.heap.size, 5, none⟩ = some (.int .i64 x.after) :=
  six_cells ((hb.block _ h.lt).trans h.blk)
/-- the list of the one operation that the law makes -/
theorem one_arg {w : World} (x : Act0) (hx : x.Read) : ActsArg (w.alloc (.cells #[.int .i64 x.kind, .int .i64 x.sector, .int .i64 x.bytes, .string x.text, .bool x.odd, .int .i64 x.after] 34)) (some ⟨w.heap.size, 0, none⟩) [x] := by
  refine ⟨fun _ => ⟨w.heap.size, 0, rfl, by simp, fun k hk j v hv => ?_⟩, by simp, fun a ha => ?_, fun _ a ha => ?_⟩
  · simp only [List.length_singleton] at hk
    obtain rfl : k = 0 := by omega
    rw [cell_blk (heap_alloc_new _ _)]
    simp only [Nat.zero_mul, Nat.add_zero, Nat.zero_add, List.getElem?_toArray]
    exact hv
  · rw [List.mem_singleton] at ha; subst ha; exact hx
  · injection ha with ha; subst ha; simp
theorem sync_plain {st : DS} (ho : st.off = false) (ha : st.armed = none) : st.sync = (st.syncNow, 0) := by
  have hc : st.count = (st, 0) := by unfold DS.count; rw [ha]
  unfold DS.sync
  rw [hc, ho]
  simp
theorem write_keeps {st : DS} (ho : st.off = false) (ha : st.armed = none) (i : Int) (t : ByteArray) : (st.write i t).1.off = false ∧ (st.write i t).1.armed = none ∧ (st.write i t).1.sect = st.sect := by
  rw [DS.write_plain ho ha]
  split
  · exact ⟨ho, ha, rfl⟩
  · exact ⟨ho, ha, rfl⟩

/-- A row of texts of the call's own that a disk's operations do not touch. -/
structure RowOut (B : Nat) (w : World) (F : Nat → Prop) (v : Value) (xs : List ByteArray) : Prop where
  own : w.ownsRow B 9 1 v xs.length (strs xs)
  out : ∀ k, v.ownBlock = some k → ¬ F k
theorem RowOut.keep {B : Nat} {w w' : World} {F F' : Nat → Prop} {v : Value} {xs : List ByteArray} (h : RowOut B w F v xs) (hk : Keep F F' w w') : RowOut B w' F' v xs :=
  ⟨own_same h.own fun k hb => (hk.k k (h.own.lt k hb).2 (h.out k hb)).1, fun k hb => (hk.k k (h.own.lt k hb).2 (h.out k hb)).2⟩
theorem RowOut.at_ {B : Nat} {w : World} {F : Nat → Prop} {v : Value} {xs : List ByteArray} (h : RowOut B w F v xs) : StrsAt w v xs := StrsAt.of_own h.own
theorem RowOut.form {B : Nat} {w : World} {F : Nat → Prop} {v : Value} {xs : List ByteArray} (h : RowOut B w F v xs) : ∃ A cap, v = .slice A xs.length cap := by
  obtain ⟨A, cap, rfl, _⟩ := h.at_
  exact ⟨A, cap, rfl⟩
theorem RowOut.block {B : Nat} {w : World} {F : Nat → Prop} {A : Option Addr} {n cap : Nat} {xs : List ByteArray} (h : RowOut B w F (.slice A n cap) xs) (hp : 0 < xs.length) :
    ∃ b, A = some ⟨b, 0, none⟩ ∧ B ≤ b ∧ b < w.heap.size ∧ ¬ F b ∧ (∀ o, w.frozen? ⟨b, o, none⟩ = false) ∧ n = xs.length ∧ ∀ k (hk : k < xs.length), w.cell? ⟨b, k, none⟩ = some (.string xs[k]) := by
  obtain ⟨g, cap', e, hg, hlt⟩ := h.own.form hp
  injection e with e1 e2 e3
  subst e1 e2 e3
  refine ⟨g, rfl, hg, hlt, h.out g rfl, fun o => h.own.frozenAt o, rfl, fun k hk => ?_⟩
  rw [h.own.cellAt k (by omega)]
  simp [strs, hk]
theorem RowOut.set {B : Nat} {w : World} {F : Nat → Prop} {b cap : Nat} {xs : List ByteArray} (h : RowOut B w F (.slice (some ⟨b, 0, none⟩) xs.length cap) xs) (k : Nat) (t : ByteArray) :
    RowOut B (w.setCell ⟨b, k, none⟩ (.string t)) F (.slice (some ⟨b, 0, none⟩) xs.length cap) (xs.set k t) := by
  have e : strs (xs.set k t) = (strs xs).set k (.string t) := by simp [strs, List.map_set]
  refine ⟨?_, h.out⟩
  rw [List.length_set, e]
  exact (h.own.stored k (.string t)).1
theorem RowOut.apart {B : Nat} {w : World} {F : Nat → Prop} {v : Value} {xs : List ByteArray} (h : RowOut B w F v xs) {g : Nat} (hg : g < B) (k : Nat) (u : Value) : RowOut B (w.setCell ⟨g, k, none⟩ u) F v xs :=
  ⟨own_same h.own fun j hb => Below.heap_setCell _ _ _ _ (by have := (h.own.lt j hb).1; intro e; have : j = g := e; omega), h.out⟩
theorem Mine.contsO {B : Nat} {w0 w w' : World} {F : Nat → Prop} {p : Nat} {st : DS} {xs : List ByteArray} {e : Ending} (h : Mine B w0 w F p st) (t : Conts w xs e w') :
    ∃ v, e = .returned (.tuple #[v, .bool true]) ∧ RowOut w.heap.size w' F v xs ∧ Mine B w0 w' F p st ∧ Keep F F w w' := by
  obtain ⟨v, he, hown, hb⟩ := t
  obtain ⟨s, qv, av, hc, f1, f2, f3, f4, f5⟩ := h.d
  exact ⟨v, he, ⟨hown, fun k hk hf => by have := f5 k hf; have := (hown.lt k hk).1; omega⟩, h.below hb, Keep.below hb⟩
theorem Mine.set {B : Nat} {w0 w : World} {F : Nat → Prop} {p : Nat} {st : DS} (h : Mine B w0 w F p st) {g : Nat} (hg : ¬ F g) (hB : B ≤ g) (k : Nat) (u : Value) : Mine B w0 (w.setCell ⟨g, k, none⟩ u) F p st :=
  ⟨h.d.apart (G := fun i => i = g) ((Upd.refl (fun i => i = g) w).setCell ⟨g, k, none⟩ (.inl rfl) u) fun i hi e => hg (e ▸ hi), h.lo, h.be.setCell (by exact hB) _, by simpa [World.setCell] using h.sz⟩
theorem DiskAt.lt {w : World} {F : Nat → Prop} {p : Nat} {st : DS} (h : DiskAt w F p st) : ∀ k, F k → k < w.heap.size := by
  obtain ⟨s, qv, av, hc, f1, f2, f3, f4, f5⟩ := h
  exact f5
end Go.Proofs.Ytbjomjlchafkfaa
