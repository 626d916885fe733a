/- Atoi's number at every text; the journal in memory; Room, Records.
   Conditions: the journal lies in memory as JAt says. -/
import Derived.Test.YtpdhjfnddnoghaaDoorJO
namespace Go.Proofs.YtpdhjfnddnoghaaDoor
open Go.RowKit Go.Lib
set_option linter.unusedVariables false
set_option linter.unusedSimpArgs false

/-- the number that Atoi returns, with an error or without -/
def atoiN (s : ByteArray) : Int := match atoiAll s.data.toList with | .ok v => v | .syntax => 0 | .range => atoiSat s.data.toList
theorem atoiN_calls (w : World) (hl : LaidJ w) (s : ByteArray) (hs : s.size ≤ 281474976710656) :
    Calls Tryd.prog 29 #[.string s] w fun e w' => (∃ ev, e = .returned (.tuple #[.int .i64 (atoiN s), ev])) ∧ Below w.heap.size w w' := by
  obtain ⟨tp, p, hsyn⟩ := hl.syn
  obtain ⟨tp2, p2, hrng⟩ := hl.rng
  cases h : atoiAll s.data.toList with
  | ok v =>
    refine (Tryd.strconv_Atoi_ok s (by omega) v h w).mono ?_
    rintro e w1 ⟨rfl, hw⟩
    refine ⟨⟨_, by unfold atoiN; rw [h]⟩, ?_⟩
    rcases hw with rfl | ⟨t, rfl⟩
    · exact Below.refl _ _
    · exact bytesWorld_below _ _ _
  | «syntax» =>
    refine (Tryd.strconv_Atoi_syntax_var s hs h tp p w hsyn).mono ?_
    rintro e w1 ⟨N, rfl, _, _, hb⟩
    exact ⟨⟨_, by unfold atoiN; rw [h]⟩, hb⟩
  | range =>
    refine (Tryd.strconv_Atoi_range_var s hs h tp2 p2 w hrng).mono ?_
    rintro e w1 ⟨N, rfl, _, _, hb⟩
    exact ⟨⟨_, by unfold atoiN; rw [h]⟩, hb⟩
/-- a journal besides its disk -/
structure JSt where
  sectors : Nat
  count : Nat
  recs : List ByteArray
  broken : Bool
/-- At block j lies the journal js on the disk at d; its blocks are among G. -/
def JAt (w : World) (G : Nat → Prop) (j d : Nat) (js : JSt) : Prop :=
  ∃ rv, w.heap[j]? = some (.cells #[.pointer (some ⟨d, 0, none⟩), .int .i64 js.sectors, .int .i64 js.count, rv, .bool js.broken] 50 (0, 0)) ∧
    w.ownsRow 0 9 1 rv js.recs.length (strs js.recs) ∧ G j ∧ (∀ k, rv.ownBlock = some k → G k) ∧ ∀ k, G k → k < w.heap.size
theorem JAt.apart {w w' : World} {G U : Nat → Prop} {j d : Nat} {js : JSt} (h : JAt w G j d js) (hu : Upd U w w') (hn : ∀ k, G k → ¬ U k) : JAt w' G j d js := by
  obtain ⟨rv, h1, h2, h3, h4, h5⟩ := h
  exact ⟨rv, (hu.block j (h5 j h3) (hn j h3)).trans h1, own_same h2 fun k hk => hu.block k (h5 k (h4 k hk)) (hn k (h4 k hk)), h3, h4, fun k hk => Nat.lt_of_lt_of_le (h5 k hk) hu.size⟩
theorem JAt.below {w w' : World} {G : Nat → Prop} {j d : Nat} {js : JSt} (h : JAt w G j d js) (hb : Below w.heap.size w w') : JAt w' G j d js :=
  h.apart (Upd.of_below hb fun _ => False) fun _ _ hf => hf
def JSt.room (js : JSt) : Int := (js.sectors : Int) - 2 - (js.count : Int)
set_option maxRecDepth 100000 in
theorem room_calls {w : World} {G : Nat → Prop} {j d : Nat} {js : JSt} (h : JAt w G j d js) (hs : js.sectors ≤ 1000000) (hc : js.count ≤ 1000000) :
    Calls Tryd.prog 16 #[.pointer (some ⟨j, 0, none⟩)] w fun e w' => e = .returned (.int .i64 js.room) ∧ Below w.heap.size w w' := by
  obtain ⟨rv, h1, h2, h3, h4, h5⟩ := h
  have c1 := cell_blk h1 1
  have c2 := cell_blk h1 2
  simp only [List.getElem?_toArray, List.getElem?_cons_zero, List.getElem?_cons_succ] at c1 c2
  have HR : Hid (js.room = (js.sectors : Int) - 2 - (js.count : Int)) := rfl
  generalize js.sectors = a at c1 HR hs
  generalize js.count = b at c2 HR hc
  clear h1 h2 h3 h4 h5
  have m1 : IntKind.i64.wrap ((a : Int) - 2) = (a : Int) - 2 := IntWalk.i64_in _ (by omega)
  have m2 : IntKind.i64.wrap ((a : Int) - 2 - (b : Int)) = (a : Int) - 2 - (b : Int) := IntWalk.i64_in _ (by omega)
  go_enter Tryd.func16, Tryd.ntmps16
  go_wp2_with fail
  go_quiet (fail)
  go_wp2_with fail
  go_ret
  rw [HR.out]
  exact ⟨rfl, pw_below_drewN (Below.refl _ _) _⟩
/-- a copy of the records, in memory of the call's own -/
def Copied (w : World) (xs : List ByteArray) (e : Ending) (w' : World) : Prop := ∃ v, e = .returned v ∧ w'.ownsRow w.heap.size 9 1 v xs.length (strs xs) ∧ Below w.heap.size w w'
end Go.Proofs.YtpdhjfnddnoghaaDoor
