/- Words on memory for the walks over the disk: which blocks a call may have written, and what memory holds a disk.
   Conditions: none. -/
import Derived.Test.YtpdhjfnddnoghaaDoorProg
import Derived.Test.YtpdhjfnddnoghaaDoorDM
import Derived.WalkKit
import Derived.Outline
import Derived.KernelRfl
import Derived.Deep.QuietTactic
import Derived.BigQuiet
import Derived.Deep.AppendLies
import Derived.Deep.RegionLaw
import Derived.StillTailTactics
import Derived.Lib.Hide
import Derived.Lib.BufferWrite
import Derived.Laws.CopyOwn
namespace Go.Proofs.YtpdhjfnddnoghaaDoor
open Go.RowKit Go.Lib

/-- Of the blocks that were there, those of F alone may have been written; new blocks may have come. -/
structure Upd (F : Nat → Prop) (w w' : World) : Prop where
  os : w'.os = w.os
  tape : w'.tape = w.tape
  output : w'.output = w.output
  size : w.heap.size ≤ w'.heap.size
  block : ∀ k, k < w.heap.size → ¬ F k → w'.heap[k]? = w.heap[k]?

theorem Upd.refl (F : Nat → Prop) (w : World) : Upd F w w := ⟨rfl, rfl, rfl, Nat.le_refl _, fun _ _ _ => rfl⟩
/-- the second call may write what the first one may, and what is new behind the first -/
theorem Upd.trans {F G : Nat → Prop} {a b c : World} (h : Upd F a b) (k : Upd G b c) (hG : ∀ i, G i → F i ∨ a.heap.size ≤ i) : Upd F a c :=
  ⟨k.os.trans h.os, k.tape.trans h.tape, k.output.trans h.output, Nat.le_trans h.size k.size, fun i hi hF =>
    (k.block i (Nat.lt_of_lt_of_le hi h.size) fun hg => by rcases hG i hg with h1 | h1; exact hF h1; omega).trans (h.block i hi hF)⟩
theorem Upd.mono {F G : Nat → Prop} {a b : World} (h : Upd F a b) (hG : ∀ i, F i → G i) : Upd G a b :=
  ⟨h.os, h.tape, h.output, h.size, fun i hi hF => h.block i hi fun hf => hF (hG i hf)⟩
theorem Upd.drew {F : Nat → Prop} {a w : World} (h : Upd F a w) : Upd F a w.drew := ⟨h.os, h.tape, h.output, h.size, h.block⟩
theorem Upd.drewN {F : Nat → Prop} {a w : World} (h : Upd F a w) (n : Nat) : Upd F a (w.drewN n) := ⟨h.os, h.tape, h.output, h.size, h.block⟩
theorem Upd.alloc {F : Nat → Prop} {a w : World} (h : Upd F a w) (o : Obj) : Upd F a (w.alloc o) :=
  h.trans (G := fun _ => False) ⟨rfl, rfl, rfl, by simp, fun k hk _ => Below.heap_alloc _ _ _ hk⟩ fun _ h => h.elim
theorem Upd.setCell {F : Nat → Prop} {a w : World} (h : Upd F a w) (p : Addr) (hp : F p.block ∨ a.heap.size ≤ p.block) (u : Value) : Upd F a (w.setCell p u) :=
  h.trans (G := fun i => i = p.block) ⟨rfl, rfl, rfl, by simp [World.setCell], fun k _ hk => Below.heap_setCell _ _ _ _ hk⟩ fun i hi => by subst hi; exact hp
theorem Upd.grown {F : Nat → Prop} {a w w' : World} {row : Option Nat} (h : Upd F a w) (hg : w.grownBy w' row) (hr : ∀ k, row = some k → F k ∨ a.heap.size ≤ k) : Upd F a w' :=
  h.trans (G := fun i => row = some i) ⟨hg.os, hg.tape, hg.output, hg.size, fun k hk hn => hg.block k hk fun e => hn e.symm⟩ hr
theorem Upd.below {F : Nat → Prop} {B : Nat} {a b : World} (h : Upd F a b) (hF : ∀ i, F i → B ≤ i) (hB : B ≤ a.heap.size) : Below B a b :=
  ⟨h.os, h.tape, h.output, h.size, fun i hi => h.block i (by omega) fun hf => by have := hF i hf; omega⟩
theorem Upd.of_below {a b : World} (h : Below a.heap.size a b) (F : Nat → Prop) : Upd F a b := ⟨h.os, h.tape, h.output, h.size, fun i hi _ => h.block i hi⟩
theorem Upd.cell {F : Nat → Prop} {a b : World} (h : Upd F a b) {p : Addr} (hp : p.block < a.heap.size) (hF : ¬ F p.block) : b.cell? p = a.cell? p := World.cell?_of_block (w := a) (h.block _ hp hF)

theorem blk_lt {w : World} {b : Nat} {o : Obj} (h : w.heap[b]? = some o) : b < w.heap.size := (Array.getElem?_eq_some_iff.1 h).1
theorem cell_blk {w : World} {b : Nat} {cs : Array Value} {t : TypeId} {fr : Nat × Nat} (h : w.heap[b]? = some (.cells cs t fr)) (o : Nat) : w.cell? ⟨b, o, none⟩ = cs[o]? := by
  simp [World.cell?, h]
theorem free_blk {w : World} {b : Nat} {cs : Array Value} {t : TypeId} (h : w.heap[b]? = some (.cells cs t (0, 0))) (o : Nat) : w.frozen? ⟨b, o, none⟩ = false := by
  simp [World.frozen?, h]

/-- An owned row in a world whose block is as it was. -/
theorem own_same {w w' : World} {base : Nat} {e : TypeId} {size n : Nat} {v : Value} {xs : List Value} (h : w.ownsRow base e size v n xs) (hb : ∀ k, v.ownBlock = some k → w'.heap[k]? = w.heap[k]?) : w'.ownsRow base e size v n xs := by
  refine ⟨h.1, ?_⟩
  rcases h.2 with h2 | ⟨g, cap, cur, rfl, hg, hh, r⟩
  · exact .inl h2
  · exact .inr ⟨g, cap, cur, rfl, hg, by rw [hb g rfl]; exact hh, r⟩
/-- The first elements of an owned row: 'v[:m]'. -/
theorem own_take {w : World} {base : Nat} {e : TypeId} {size n : Nat} {A : Option Addr} {cap : Nat} {xs : List Value} (h : w.ownsRow base e size (.slice A n cap) n xs) (m : Nat) (hm : m ≤ n) : w.ownsRow base e size (.slice A m cap) m (xs.take (m * size)) := by
  have hl := h.1
  have hle : m * size ≤ n * size := Nat.mul_le_mul_right _ hm
  refine ⟨by rw [List.length_take]; omega, ?_⟩
  rcases h.2 with ⟨h2, h3⟩ | ⟨g, cap', cur, h2, hg, hh, h4, h5, h6, h7⟩
  · left
    subst h3
    obtain rfl : m = 0 := by omega
    exact ⟨h2, rfl⟩
  · right
    injection h2 with h2 h2' h2''
    subst h2 h2''
    refine ⟨g, cap, cur, rfl, hg, hh, by omega, h5, h6, ?_⟩
    rw [← h7, List.take_take, Nat.min_eq_left hle]

/-- What memory holds of an alarm. -/
def Alarm (w : World) (T : TypeId) : Option (Int × Int × Int) → Option Nat → Prop
  | none, none => True
  | some (a, b, c), some k => w.heap[k]? = some (.cells #[.int .i64 a, .int .i64 b, .int .i64 c] T (0, 0))
  | _, _ => False
def ptrTo (k : Option Nat) : Value := .pointer (k.map fun k => ⟨k, 0, none⟩)

/-- The cells of a disk: its struct at p, its bytes at s, its queue qv, its alarm av. -/
structure Cells (w : World) (p s : Nat) (qv : Value) (av : Option Nat) (st : DS) : Prop where
  dp : w.heap[p]? = some (.cells #[.slice (some ⟨s, 0, none⟩) (64 * st.sect.length) (64 * st.sect.length), qv, .bool st.off, ptrTo av] 55 (0, 0))
  ds : w.heap[s]? = some (.cells (stCells st.sect).toArray 5 (0, 0))
  dq : w.ownsRow 0 60 3 qv st.queue.length (qCells st.queue)
  da : Alarm w 88 st.armed av
  wf : st.WF

/-- The disk st lies at block p, its blocks are among F. -/
def DiskAt (w : World) (F : Nat → Prop) (p : Nat) (st : DS) : Prop :=
  ∃ s qv av, Cells w p s qv av st ∧ F p ∧ F s ∧ (∀ k, qv.ownBlock = some k → F k) ∧ (∀ k, av = some k → F k) ∧ ∀ k, F k → k < w.heap.size

theorem Alarm.lt {w : World} {T : TypeId} {ar : Option (Int × Int × Int)} {k : Nat} (h : Alarm w T ar (some k)) : k < w.heap.size := by
  match ar, h with
  | some (_, _, _), h => exact blk_lt h
theorem Alarm.same {w w' : World} {T : TypeId} {ar : Option (Int × Int × Int)} {av : Option Nat} (h : Alarm w T ar av) (hb : ∀ k, av = some k → w'.heap[k]? = w.heap[k]?) : Alarm w' T ar av := by
  match ar, av, h with
  | none, none, h => exact h
  | some (a, b, c), some k, h => show _ = _; rw [hb k rfl]; exact h

theorem Cells.same {w w' : World} {p s : Nat} {qv : Value} {av : Option Nat} {st : DS} (h : Cells w p s qv av st) (hb : ∀ k, k = p ∨ k = s ∨ qv.ownBlock = some k ∨ av = some k → w'.heap[k]? = w.heap[k]?) : Cells w' p s qv av st :=
  ⟨by rw [hb p (.inl rfl)]; exact h.dp, by rw [hb s (.inr (.inl rfl))]; exact h.ds, own_same h.dq fun k hk => hb k (.inr (.inr (.inl hk))), h.da.same fun k hk => hb k (.inr (.inr (.inr hk))), h.wf⟩

theorem Cells.q_lt {w : World} {p s : Nat} {qv : Value} {av : Option Nat} {st : DS} (h : Cells w p s qv av st) : ∀ k, qv.ownBlock = some k → k < w.heap.size := fun k hk => (h.dq.lt k hk).2
theorem Cells.a_lt {w : World} {p s : Nat} {qv : Value} {av : Option Nat} {st : DS} (h : Cells w p s qv av st) : ∀ k, av = some k → k < w.heap.size := fun k hk => by subst hk; exact h.da.lt
theorem Cells.below {w w' : World} {p s : Nat} {qv : Value} {av : Option Nat} {st : DS} (h : Cells w p s qv av st) (hb : Below w.heap.size w w') : Cells w' p s qv av st :=
  h.same fun k hk => hb.block k (by rcases hk with rfl | rfl | hk | hk; exact blk_lt h.dp; exact blk_lt h.ds; exact h.q_lt k hk; exact h.a_lt k hk)

/-- The blocks of a disk are four different ones: their types differ. -/
theorem ne_of_type {w : World} {a b : Nat} {c c' : Array Value} {t t' : TypeId} {fr fr' : Nat × Nat} (h : w.heap[a]? = some (.cells c t fr)) (h' : w.heap[b]? = some (.cells c' t' fr')) (ht : t ≠ t') : a ≠ b := by
  rintro rfl
  rw [h] at h'
  injection h' with h'
  injection h' with _ h' _
  exact ht h'
theorem own_type {w : World} {base : Nat} {e : TypeId} {size n : Nat} {v : Value} {xs : List Value} (h : w.ownsRow base e size v n xs) {k : Nat} (hk : v.ownBlock = some k) : ∃ c, w.heap[k]? = some (.cells c e (0, 0)) := by
  rcases h.2 with ⟨rfl, _⟩ | ⟨g, cap, cur, rfl, _, hh, _⟩
  · simp [Value.ownBlock] at hk
  · have : g = k := by simpa [Value.ownBlock] using hk
    subst this; exact ⟨_, hh⟩
theorem alarm_type {w : World} {T : TypeId} {ar : Option (Int × Int × Int)} {k : Nat} (h : Alarm w T ar (some k)) : ∃ c, w.heap[k]? = some (.cells c T (0, 0)) := by
  match ar, h with
  | some (_, _, _), h => exact ⟨_, h⟩

theorem DiskAt.below {w w' : World} {F : Nat → Prop} {p : Nat} {st : DS} (h : DiskAt w F p st) (hb : Below w.heap.size w w') : DiskAt w' F p st := by
  obtain ⟨s, qv, av, hc, h1, h2, h3, h4, h5⟩ := h
  exact ⟨s, qv, av, hc.below hb, h1, h2, h3, h4, fun k hk => Nat.lt_of_lt_of_le (h5 k hk) hb.size⟩
/-- Another call has written elsewhere. -/
theorem DiskAt.apart {w w' : World} {F G : Nat → Prop} {p : Nat} {st : DS} (h : DiskAt w F p st) (hb : Upd G w w') (hn : ∀ k, F k → ¬ G k) : DiskAt w' F p st := by
  obtain ⟨s, qv, av, hc, h1, h2, h3, h4, h5⟩ := h
  refine ⟨s, qv, av, hc.same fun k hk => ?_, h1, h2, h3, h4, fun k hk => Nat.lt_of_lt_of_le (h5 k hk) hb.size⟩
  have hF : F k := by
    rcases hk with rfl | rfl | hk | hk
    · exact h1
    · exact h2
    · exact h3 k hk
    · exact h4 k hk
  exact hb.block k (h5 k hF) (hn k hF)
theorem DiskAt.wf {w : World} {F : Nat → Prop} {p : Nat} {st : DS} (h : DiskAt w F p st) : st.WF := by
  obtain ⟨s, qv, av, hc, _⟩ := h
  exact hc.wf

/-! ### max and min of two numbers -/
def mx (a b : Int) : Int := if a < b then b else a
def mn (a b : Int) : Int := if b < a then b else a
theorem max2_num (k k' : IntKind) (x y : Int) : Builtin.max2 (.int k x) (.int k' y) = pure (.int k (mx x y)) := by simp only [Builtin.max2, gt_iff_lt, mx]
theorem min2_num (k k' : IntKind) (x y : Int) : Builtin.min2 (.int k x) (.int k' y) = pure (.int k (mn x y)) := by simp only [Builtin.min2, mn]
theorem max_of_two (ats : Array TypeId) (ty : TypeId) (a b : Value) : Builtin.max_ ats ty #[a, b] = (Builtin.max2 a b >>= fun s => pure s) := by simp only [Builtin.max_, List.foldlM_cons, List.foldlM_nil]
theorem min_of_two (ats : Array TypeId) (ty : TypeId) (a b : Value) : Builtin.min_ ats ty #[a, b] = (Builtin.min2 a b >>= fun s => pure s) := by simp only [Builtin.min_, List.foldlM_cons, List.foldlM_nil]
theorem clamp_eq (a : Int) (m : Nat) : mn (mx a 0) m = clamp a m := by unfold mn mx clamp; split <;> split <;> omega

/-- What a call leaves that returns v and turns the disk at p into st'. -/
def Turns (w : World) (F : Nat → Prop) (p : Nat) (st' : DS) (v : Value) (e : Ending) (w' : World) : Prop :=
  e = .returned v ∧ ∃ F', DiskAt w' F' p st' ∧ Upd F w w' ∧ ∀ k, F' k → F k ∨ w.heap.size ≤ k
theorem Turns.alloc {w w' : World} {F : Nat → Prop} {p : Nat} {st : DS} {v : Value} {e : Ending} (h : Turns w F p st v e w') (o : Obj) : Turns w F p st v e (w'.alloc o) := by
  obtain ⟨he, F', hd, hu, hF⟩ := h
  exact ⟨he, F', hd.below ((Below.refl _ _).alloc (Nat.le_refl _) _), hu.alloc o, hF⟩
theorem Turns.drew {w w' : World} {F : Nat → Prop} {p : Nat} {st : DS} {v : Value} {e : Ending} (h : Turns w F p st v e w') : Turns w F p st v e w'.drew := by
  obtain ⟨he, F', hd, hu, hF⟩ := h
  exact ⟨he, F', hd.below ⟨rfl, rfl, rfl, Nat.le_refl _, fun _ _ => rfl⟩, hu.drew, hF⟩
/-- a call that begins in a world behind the first one, where this disk's blocks are as they were -/
theorem Turns.since {w0 w w' : World} {F : Nat → Prop} {p : Nat} {st : DS} {v : Value} {e : Ending} (h : Turns w F p st v e w') (h0 : Upd F w0 w) : Turns w0 F p st v e w' := by
  obtain ⟨he, F', hd, hu, hF⟩ := h
  exact ⟨he, F', hd, h0.trans hu fun i hi => .inl hi, fun k hk => (hF k hk).imp id fun h => Nat.le_trans h0.size h⟩
end Go.Proofs.YtpdhjfnddnoghaaDoor
