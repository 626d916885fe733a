/- From the reading of an argument as data to what lies in memory: a slice of operations; from what a row lists as laid to what the walks ask.
   Conditions: none. -/
import Derived.Test.YtpdhjfnddnoghaaDoorRows
import Derived.Test.YtpdhjfnddnoghaaDoorJZ
import Derived.ProofKit
import Derived.OpenShut
import Derived.ShutString
import Derived.ChangeOld
import Derived.SizedLaws
import Derived.Deep.Slices
import Derived.Deep.Fields
import Derived.Stop.LaidErr
import Derived.MakeChecks
namespace Go.Proofs.YtpdhjfnddnoghaaDoor
open Go.RowKit Go.Lib Go.ChangeShapes Go.WideShapes Go.Deep
set_option linter.unusedVariables false
set_option linter.unusedSimpArgs false
set_option maxRecDepth 100000

theorem i64ok_of {n : Int} (h : (Lit.int .i64 n).wf = true) : i64ok n := by
  simpa [Lit.wf, IntKind.min, IntKind.max, IntKind.signed, IntKind.bits, i64ok] using h
theorem u8ok_of {n : Int} (h : (Lit.int .u8 n).wf = true) : 0 ≤ n ∧ n ≤ 255 := by
  simpa [Lit.wf, IntKind.min, IntKind.max, IntKind.signed, IntKind.bits] using h
theorem laidOut : laidOutB Tryd.prog = true := by kernel_rfl
theorem own : ownKnob Tryd.prog.godebug = none := by kernel_rfl
theorem add_plain0 (b off i : Nat) : (⟨b, off, none⟩ : Addr).add i = ⟨b, off + i, none⟩ := by unfold Addr.add; split <;> simp_all
theorem add_block0 (b : Addr) (i : Nat) : (b.add i).block = b.block := by unfold Addr.add; split <;> rfl
section
variable {H : Type} {enc : TypeId × Value → H} {w : World} {base : Nat} {spare : Nat → Bool} {held : Bool}
theorem weightsAll_mem {P : Program} {e : TypeId} : ∀ {l : List (DataW H)} {d : DataW H}, d ∈ l → ∀ n ∈ d.weights P e, n ∈ DataW.weightsAll P e l := by
  intro l
  induction l with
  | nil => intro d hd; simp at hd
  | cons a l ih =>
    intro d hd n hn
    unfold DataW.weightsAll
    rw [List.mem_append]
    rw [List.mem_cons] at hd
    rcases hd with rfl | hd
    · exact .inl hn
    · exact .inr (ih hd n hn)
theorem reach47 : reachBytes ≤ 140737488355328 := by decide
theorem texts_of {c : Value} {fuel : Nat} {x : DataW H × List MemPlace} (hf : DataW.trod enc Tryd.prog w base spare held fuel 27 [c] = some x) (hsz : ∀ n ∈ x.1.weights Tryd.prog 27, n ≤ reachBytes) :
    ∃ xs : List ByteArray, TextsIn w.heap.size w c xs ∧ xs.length ≤ 9223372036854775807 ∧ ∀ s ∈ xs, s.size ≤ 140737488355328 := by
  rcases open_slice Tryd.underlying27 hf with ⟨hcs, hx⟩ | ⟨a, len, cap, m, n, D, Pl, hcs, hb, hl, hm, hmm, hx, hi⟩
  · simp only [List.cons.injEq, and_true] at hcs
    subst hcs
    exact ⟨[], ⟨none, 0, rfl, fun hp => by simp at hp⟩, by simp, by simp⟩
  · simp only [List.cons.injEq, and_true] at hcs
    subst hcs
    have hC : Tryd.prog.cellsOf 9 = 1 := by kernel_rfl
    rw [hC] at hi
    have hml : len ≤ m := by rw [hmm]; split <;> omega
    subst hx
    have key : ∀ i, i < len → ∃ s : ByteArray, w.cell? (a.add i) = some (.string s) ∧ s.size ≤ 140737488355328 := by
      intro i hil
      obtain ⟨cs', hc, ht⟩ := hi i (by omega)
      obtain ⟨s, hs, hD, _⟩ := DataW.trod_string Tryd.underlying9 ht
      have hsize : s.size ≤ 140737488355328 := by
        have hD1 : D i = .lit (.string s.data.toList) := congrArg Prod.fst hD
        have h1 := hsz s.data.toList.length (by
          simp only [DataW.weights, Tryd.underlying27]
          refine List.mem_cons_of_mem _ (List.mem_append.2 (.inl (weightsAll_mem (d := D i) (List.mem_map.2 ⟨i, List.mem_range.2 hil, rfl⟩) _ ?_)))
          rw [hD1]
          simp [DataW.weights])
        have h2 := bsize s
        have h3 := reach47
        omega
      subst hs
      obtain ⟨_, hcl, hat⟩ := World.cells?_some hc
      have := hat 0 (by omega)
      rw [Nat.mul_one] at this
      refine ⟨s, ?_, hsize⟩
      have e : (a.add i).add 0 = a.add i := by unfold Addr.add; simp
      rw [e] at this
      rw [this]
      rfl
    haveI : Inhabited ByteArray := ⟨emptyB⟩
    obtain ⟨f, hf2⟩ := choose_lt key
    refine ⟨(List.range len).map f, ⟨some a, cap, by simp, fun hp => ?_⟩, by simp [maxLen] at hm; simp; omega, fun s hs => by
      obtain ⟨i, hil, rfl⟩ := List.mem_map.1 hs
      exact (hf2 i (List.mem_range.1 hil)).2⟩
    have hp' : 0 < len := by simpa using hp
    have h0 := (hf2 0 hp').1
    have hsp : a.spot = none := by
      have e : a.add 0 = a := by unfold Addr.add; simp
      rw [e] at h0
      cases hs : a.spot with
      | none => rfl
      | some q => simp [World.cell?, hs] at h0; split at h0 <;> simp_all
    obtain ⟨b, off, spot⟩ := a
    simp only at hsp
    subst hsp
    refine ⟨b, off, rfl, ?_, fun k hk => ?_⟩
    · have := World.block_lt_of_cell? w _ h0
      rwa [add_plain0] at this
    · have hk' : k < len := by simpa using hk
      have := (hf2 k hk').1
      rw [add_plain0] at this
      rw [this]
      simp
theorem op_of {fuel : Nat} {cs : List Value} {x : DataW H × List MemPlace} (h : DataW.trod enc Tryd.prog w base spare held fuel 46 cs = some x) (hsz : ∀ n ∈ x.1.weights Tryd.prog 46, n ≤ reachBytes) :
    ∃ o : Op0, cs = o.cells ∧ TextsIn w.heap.size w o.lv o.recs ∧ i64ok o.at_ ∧ i64ok o.writes ∧ i64ok o.bytes ∧ i64ok o.kind ∧ o.recs.length ≤ 9223372036854775807 ∧ ∀ s ∈ o.recs, s.size ≤ 140737488355328 := by
  obtain ⟨xs, n, _, hxx, hl, hxl, hf⟩ := DataW.trod_struct Tryd.underlying46 h
  have hC : Tryd.prog.cellsOf 46 = 5 := by kernel_rfl
  rw [hC] at hl
  match cs, hl with
  | [c0, c1, c2, c3, c4], _ =>
    have hs : xs.length = 5 := hxl
    match xs, hs with
    | [x0, x1, x2, x3, x4], _ =>
      have e3 : Tryd.prog.cellsOf 3 = 1 := by kernel_rfl
      have e27 : Tryd.prog.cellsOf 27 = 1 := by kernel_rfl
      have f0 := hf 0 _ rfl
      have f1 := hf 1 _ rfl
      have f2 := hf 2 _ rfl
      have f3 := hf 3 _ rfl
      have f4 := hf 4 _ rfl
      simp only [List.getElem_toArray, List.getElem_cons_zero, List.getElem_cons_succ, e3, e27, List.drop_zero, List.drop_succ_cons, List.take_succ_cons, List.take_zero, List.getElem?_cons_zero, List.getElem?_cons_succ] at f0 f1 f2 f3 f4
      obtain ⟨n0, h0, _, w0⟩ := DataW.trod_int Tryd.underlying3 f0
      have hsz1 : ∀ n ∈ x1.1.weights Tryd.prog 27, n ≤ reachBytes := by
        intro n hn
        refine hsz n ?_
        rw [hxx]
        simp only [DataW.weights, Tryd.underlying46]
        exact DataW.weights_mem_each (j := 1) (t := 27) (d := x1.1) rfl rfl n hn
      obtain ⟨recs, ht, hlen, hss⟩ := texts_of f1 hsz1
      obtain ⟨n2, h2, _, w2⟩ := DataW.trod_int Tryd.underlying3 f2
      obtain ⟨n3, h3, _, w3⟩ := DataW.trod_int Tryd.underlying3 f3
      obtain ⟨n4, h4, _, w4⟩ := DataW.trod_int Tryd.underlying3 f4
      simp only [List.cons.injEq, and_true] at h0 h2 h3 h4
      subst h0 h2 h3 h4
      exact ⟨⟨n0, c1, recs, n2, n3, n4⟩, rfl, ht, i64ok_of w2, i64ok_of w3, i64ok_of w4, i64ok_of w0, hlen, hss⟩
theorem ops_of {v : Value} {d : DataW H} {p : List MemPlace} {r : Reach} {b0 : Nat} (hv : Value.okWide Tryd.prog w r b0 22 v) (h : DataW.Trod enc Tryd.prog w base spare held 22 v d p) (hsz : ∀ n ∈ d.weights Tryd.prog 22, n ≤ reachBytes) :
    ∃ l : List Op0, OpsArg w.heap.size w v l := by
  obtain ⟨fuel, hf⟩ := h
  rcases open_slice Tryd.underlying22 hf with ⟨hcs, hx⟩ | ⟨a, len, cap, m, n, D, Pl, hcs, hb, hl, hm, hmm, hx, hi⟩
  · obtain rfl : v = .slice none 0 0 := by
      obtain ⟨A', l', c', rfl⟩ := okWide_slice Tryd.underlying22 hv
      simpa [Value.cells] using hcs
    exact ⟨[], ⟨by simp, ⟨none, 0, rfl, fun hp => by simp at hp⟩, fun o ho => by simp at ho, fun o ho => by simp at ho⟩⟩
  · obtain rfl : v = .slice (some a) len cap := by
      obtain ⟨A', l', c', rfl⟩ := okWide_slice Tryd.underlying22 hv
      simpa [Value.cells] using hcs
    have hC : Tryd.prog.cellsOf 46 = 5 := by kernel_rfl
    rw [hC] at hi
    have hml : len ≤ m := by rw [hmm]; split <;> omega
    have hdx : d = .slice ((List.range len).map D) ((List.range (m - len)).map fun j => D (len + j)) := congrArg Prod.fst hx
    have key : ∀ i, i < len → ∃ o : Op0, (∀ j x, o.cells[j]? = some x → w.cell? ((a.add (i * 5)).add j) = some x) ∧ TextsIn w.heap.size w o.lv o.recs ∧ i64ok o.at_ ∧ i64ok o.writes ∧ i64ok o.bytes ∧ i64ok o.kind ∧ o.recs.length ≤ 9223372036854775807 ∧ ∀ s ∈ o.recs, s.size ≤ 140737488355328 := by
      intro i hil
      obtain ⟨cs', hc, ht⟩ := hi i (by omega)
      obtain ⟨o, rfl, ho⟩ := op_of ht (by
        intro n hn
        refine hsz n ?_
        rw [hdx]
        simp only [DataW.weights, Tryd.underlying22]
        exact List.mem_cons_of_mem _ (List.mem_append.2 (.inl (weightsAll_mem (d := D i) (List.mem_map.2 ⟨i, List.mem_range.2 hil, rfl⟩) _ hn))))
      obtain ⟨_, hcl, hat⟩ := World.cells?_some hc
      refine ⟨o, fun j x hx2 => ?_, ho⟩
      have hj : j < 5 := by
        rcases Nat.lt_or_ge j 5 with h | h
        · exact h
        · rw [List.getElem?_eq_none (by simpa [Op0.cells] using h)] at hx2; cases hx2
      rw [hat j hj, hx2]
    haveI : Inhabited Op0 := ⟨⟨0, .bool false, [], 0, 0, 0⟩⟩
    obtain ⟨f, hf2⟩ := choose_lt key
    have hin : ∀ o ∈ (List.range len).map f, TextsIn w.heap.size w o.lv o.recs ∧ i64ok o.at_ ∧ i64ok o.writes ∧ i64ok o.bytes ∧ i64ok o.kind ∧ o.recs.length ≤ 9223372036854775807 ∧ ∀ s ∈ o.recs, s.size ≤ 140737488355328 := by
      intro o ho
      obtain ⟨i, hil, rfl⟩ := List.mem_map.1 ho
      exact (hf2 i (List.mem_range.1 hil)).2
    refine ⟨(List.range len).map f, ⟨by simp [maxLen] at hm; simp; omega, ⟨some a, cap, by simp, fun hp => ?_⟩, fun o ho => (hin o ho).1, fun o ho => (hin o ho).2⟩⟩
    have hp' : 0 < len := by simpa using hp
    have h0 := (hf2 0 hp').1 0 _ rfl
    have hsp : a.spot = none := by
      simp only [Addr.add] at h0
      cases hs : a.spot with
      | none => rfl
      | some q => simp [World.cell?, hs] at h0; split at h0 <;> simp_all
    obtain ⟨b, off, spot⟩ := a
    simp only at hsp
    subst hsp
    refine ⟨b, off, rfl, ?_, fun k hk j x hx2 => ?_⟩
    · have := World.block_lt_of_cell? w _ h0
      rwa [add_plain0, add_plain0] at this
    · have hk' : k < len := by simpa using hk
      simp only [List.getElem_map, List.getElem_range] at hx2
      have := (hf2 k hk').1 j x hx2
      rwa [add_plain0, add_plain0] at this
end
/-! ### what is laid -/
theorem gES : Tryd.prog.globalNamed "strconv.ErrSyntax" = some 0 := by kernel_rfl
theorem gER : Tryd.prog.globalNamed "strconv.ErrRange" = some 1 := by kernel_rfl
theorem gTab : Tryd.prog.globalNamed "internal/strconv.uint64pow10" = some 3 := by kernel_rfl
theorem g64 : Tryd.prog.globalNamed "math/bits.deBruijn64tab" = some 5 := by kernel_rfl
theorem gEST : (Tryd.prog.globals[0]?).map (·.type) = some 69 := by kernel_rfl
theorem gERT : (Tryd.prog.globals[1]?).map (·.type) = some 69 := by kernel_rfl
theorem starE : "*errors.errorString" = "*" ++ "errors.errorString" := by decide
theorem rowE (u : TypeId) (h : Tryd.prog.typeName? 3 u = some "*errors.errorString") : u = 128 :=
  typeName_ptr_named (nm := "errors.errorString") (by rw [← starE]; kernel_rfl) (by kernel_rfl) (by decide) u (by rw [← starE]; exact h)
def laidL : List (String × DataW Unit) := [("math/bits.deBruijn32tab", Rows.laid_math_bits_deBruijn32tab), ("math/bits.deBruijn64tab", Rows.laid_math_bits_deBruijn64tab), ("internal/strconv.uint64pow10", Rows.laid_internal_strconv_uint64pow10), ("strconv.ErrRange", Rows.laid_strconv_ErrRange), ("strconv.ErrSyntax", Rows.laid_strconv_ErrSyntax)]
def tab64 : List Int := [0, 1, 56, 2, 57, 49, 28, 3, 61, 58, 42, 50, 38, 29, 17, 4, 62, 47, 59, 36, 45, 43, 51, 22, 53, 39, 33, 30, 24, 18, 12, 5, 63, 55, 48, 27, 60, 41, 37, 16, 46, 35, 44, 21, 52, 32, 23, 11, 54, 26, 40, 15, 34, 20, 31, 10, 25, 14, 19, 9, 13, 8, 7, 6]
theorem laidJ_of {W : World} (h : laidMet Tryd.prog laidL W) : LaidJ W := by
  have h2 := h.tail
  have h3 := h2.tail
  have h4 := h3.tail
  have h5 := h4.tail
  refine ⟨?_, ?_, ?_, ?_⟩
  · have ht : TabIs Tryd.prog W "math/bits.deBruijn64tab" .u8 tab64 := tabIs_of_head g64 (t := 149) (e := 5) (n := 64) (by kernel_rfl) Tryd.underlying149 Tryd.underlying5 (by kernel_rfl) (by kernel_rfl) h2
    exact ht.cell g64 15 (by decide)
  · exact tabIs_of_head gTab (t := 143) (e := 110) (n := 20) (by kernel_rfl) Tryd.underlying143 Tryd.underlying110 (by kernel_rfl) (by kernel_rfl) h3
  · obtain ⟨a, s, hv, _⟩ := laid_sentinel h5 gES gEST Tryd.underlying69 (tp := 128) rowE Tryd.underlying128 Tryd.underlying130 rfl rfl Tryd.underlying9 (by kernel_rfl) (by kernel_rfl)
    exact ⟨_, _, hv⟩
  · obtain ⟨a, s, hv, _⟩ := laid_sentinel h4 gER gERT Tryd.underlying69 (tp := 128) rowE Tryd.underlying128 Tryd.underlying130 rfl rfl Tryd.underlying9 (by kernel_rfl) (by kernel_rfl)
    exact ⟨_, _, hv⟩
end Go.Proofs.YtpdhjfnddnoghaaDoor
