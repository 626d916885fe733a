/- The innermost functions of the disk: place, set.
   Conditions: the disk lies in memory as Cells says. -/
import Derived.Test.YtpdhjfnddnoghaaDoorDW
namespace Go.Proofs.YtpdhjfnddnoghaaDoor
open Go.RowKit Go.Lib
set_option linter.unusedVariables false

theorem place_ok (w : World) (p : Nat) (sa : Option Addr) (n cap : Nat) (hn : n ≤ 256000) (c0 : w.cell? ⟨p, 0, none⟩ = some (.slice sa n cap)) (sec : Int) (h0 : 0 ≤ sec) (h1 : sec < (n : Int) / 64) :
    Calls Tryd.prog 37 #[.pointer (some ⟨p, 0, none⟩), .int .i64 sec] w fun e w' => e = .returned (.tuple #[.agg #[.int .i64 (sec * 64), .int .i64 ((sec + 1) * 64)], .bool true]) ∧ Below w.heap.size w w' := by
  have hlt : p < w.heap.size := World.block_lt_of_cell? w _ c0
  go_enter Tryd.func37, Tryd.ntmps37
  go_wp2
  exact bodyPost_ret (v := .tuple #[.agg #[.int .i64 (sec * 64), .int .i64 ((sec + 1) * 64)], .bool true]) (by simp [results, Tryd.results37, go_sem]) rfl ⟨rfl, (Below.refl _ _).alloc (Nat.le_refl _) _⟩

theorem place_no (w : World) (p : Nat) (sa : Option Addr) (n cap : Nat) (hn : n ≤ 256000) (c0 : w.cell? ⟨p, 0, none⟩ = some (.slice sa n cap)) (sec : Int) (h1 : sec < 0 ∨ (n : Int) / 64 ≤ sec) :
    Calls Tryd.prog 37 #[.pointer (some ⟨p, 0, none⟩), .int .i64 sec] w fun e w' => e = .returned (.tuple #[.agg #[.int .i64 0, .int .i64 0], .bool false]) ∧ Below w.heap.size w w' := by
  have hlt : p < w.heap.size := World.block_lt_of_cell? w _ c0
  by_cases h0 : sec < 0
  · go_enter Tryd.func37, Tryd.ntmps37
    go_wp2
    exact bodyPost_ret (v := .tuple #[.agg #[.int .i64 0, .int .i64 0], .bool false]) (by simp [results, Tryd.results37, go_sem]) rfl ⟨rfl, (Below.refl _ _).alloc (Nat.le_refl _) _⟩
  · have h2 : (n : Int) / 64 ≤ sec := by omega
    clear h1
    go_enter Tryd.func37, Tryd.ntmps37
    go_wp2
    exact bodyPost_ret (v := .tuple #[.agg #[.int .i64 0, .int .i64 0], .bool false]) (by simp [results, Tryd.results37, go_sem]) rfl ⟨rfl, (Below.refl _ _).alloc (Nat.le_refl _) _⟩

theorem place_nil (w : World) (sec : Int) :
    Calls Tryd.prog 37 #[.pointer none, .int .i64 sec] w fun e w' => e = .returned (.tuple #[.agg #[.int .i64 0, .int .i64 0], .bool false]) ∧ Below w.heap.size w w' := by
  go_enter Tryd.func37, Tryd.ntmps37
  go_wp2
  exact bodyPost_ret (v := .tuple #[.agg #[.int .i64 0, .int .i64 0], .bool false]) (by simp [results, Tryd.results37, go_sem]) rfl ⟨rfl, (Below.refl _ _).alloc (Nat.le_refl _) _⟩

theorem step_copy_string {P : Program} {ops : Array Oper} {o : Oper} {a : Act} {w : World} {K : Act → World → Prop} {Q : Exit → Act → World → Prop} {E : Prop} (hgd : o.guard = none) (d s : Operand) (dT sT : TypeId)
    (ho : o.op = .call { callee := .builtin .copy, args := #[d, s], argTypes := #[dT, sT] }) (elem : TypeId) (hu : P.underlying dT = some (.slice elem)) (hsz : (P.info? elem).map (·.size) = some 1)
    (g off dLen dCap : Nat) (t : ByteArray) (hd : a.eval d = .slice (some ⟨g, off, none⟩) dLen dCap) (hs : a.eval s = .string t)
    (cur : List Value) (T : TypeId) (hg : w.heap[g]? = some (.cells cur.toArray T (0, 0))) (hle : t.size ≤ dLen) (hfit : off + t.size ≤ cur.length)
    (h : ∀ w', Hid (w'.heap[g]? = some (.cells (splice cur off (byteCells t.data.toList)).toArray T (0, 0))) → w.grownBy w' (some g) → K (a.put o.dst (goInt t.size)) w') :
    if Region.wanted o (yielded ops a.tmps) = true then Oper.wp P o a w K Q else E := by
  have hw : Region.wanted o (yielded ops a.tmps) = true := by simp [Region.wanted, hgd]
  rw [if_pos hw]
  have hrun := run_copy_row_string (P := P) w dT sT o.type elem g off dLen dCap t cur.toArray T hu hsz hg hle (by simpa using hfit)
  unfold Oper.wp
  simp [execOp, ho, resolve, invoke, builtin, hd, hs, hrun, Result.andThen]
  refine h _ (show _ = _ from ?_) ⟨rfl, rfl, rfl, by simp [World.setRow], fun k hk hn => setRow_other w g k _ (fun e => hn (by rw [e]))⟩
  rw [setRow_heap w g _ _ T _ hg]
  simp [splice, byteCells_len, ← List.append_assoc]

def SetPost (w : World) (p s : Nat) (qv : Value) (av : Option Nat) (st : DS) (e : Ending) (w' : World) : Prop := e = .returned (.tuple #[]) ∧ Cells w' p s qv av st ∧ w.grownBy w' (some s)

theorem Cells.turned {w w1 : World} {p s : Nat} {qv : Value} {av : Option Nat} {st : DS} (h : Cells w p s qv av st) (hg : w.grownBy w1 (some s)) (sect : List ByteArray) (hl : sect.length = st.sect.length) (h6 : ∀ x ∈ sect, x.size = 64)
    (hs : w1.heap[s]? = some (.cells (stCells sect).toArray 5 (0, 0))) : Cells w1 p s qv av { st with sect := sect } := by
  have hps : p ≠ s := ne_of_type h.dp h.ds (by decide)
  refine ⟨?_, hs, own_same h.dq fun k hk => hg.block k (h.q_lt k hk) ?_, h.da.same fun k hk => hg.block k (h.a_lt k hk) ?_, ?_⟩
  · show w1.heap[p]? = some (.cells #[.slice (some ⟨s, 0, none⟩) (64 * sect.length) (64 * sect.length), qv, .bool st.off, ptrTo av] _ _)
    rw [hl, hg.block p (blk_lt h.dp) (fun e => hps (by injection e))]
    exact h.dp
  · obtain ⟨c, hc⟩ := own_type h.dq hk
    have := ne_of_type hc h.ds (by decide)
    exact fun e => this (by injection e)
  · subst hk
    obtain ⟨c, hc⟩ := alarm_type h.da
    have := ne_of_type hc h.ds (by decide)
    exact fun e => this (by injection e)
  · exact ⟨by show 1 ≤ sect.length; rw [hl]; exact h.wf.n1, by show sect.length ≤ 4000; rw [hl]; exact h.wf.n2, h6, fun x hx => by show x.1 < sect.length ∧ _; rw [hl]; exact h.wf.q64 x hx, h.wf.ar⟩

theorem set_fin {w w1 : World} {p s : Nat} {qv : Value} {av : Option Nat} {st : DS} (h : Cells w p s qv av st) {i : Nat} (hi : i < st.sect.length) {t u : ByteArray} (ht : t.size = 64) {k : Nat} (hk : k ≤ 64) (hu : u.data.toList = t.data.toList.take k)
    {a : Int} (ha : a.toNat = 64 * i) {o : Obj} (hs : w1.heap[s]? = some (.cells (splice (stCells st.sect) a.toNat (byteCells u.data.toList)).toArray 5 (0, 0))) (hg : (w.alloc o).drew.grownBy w1 (some s)) :
    SetPost w p s qv av { st with sect := tearAt st.sect (i, t) k } (.returned (.tuple #[])) w1 := by
  rw [ha, hu, splice_tear st.sect h.wf.s64 i hi t ht k hk] at hs
  have hg' : w.grownBy w1 (some s) := World.grownBy.trans (World.grownBy_alloc w _ _) ⟨hg.os, hg.tape, hg.output, hg.size, hg.block⟩
  exact ⟨rfl, h.turned hg' _ (tearAt_length _ _ _) (tearAt_64 _ _ _ h.wf.s64 hi ht) hs, hg'⟩

set_option maxHeartbeats 400000 in
theorem set_calls {w : World} {p s : Nat} {qv : Value} {av : Option Nat} {st : DS} (h : Cells w p s qv av st) (i : Nat) (hi : i < st.sect.length) (t u : ByteArray) (ht : t.size = 64) (k : Nat) (hk : k ≤ 64) (hu : u.data.toList = t.data.toList.take k)
    (a b : Int) (ha : a = (i : Int) * 64) (hb : b = ((i : Int) + 1) * 64) :
    Calls Tryd.prog 26 #[.pointer (some ⟨p, 0, none⟩), .agg #[.int .i64 a, .int .i64 b], .string u] w (SetPost w p s qv av { st with sect := tearAt st.sect (i, t) k }) := by
  have hn := h.wf.n2
  have hus : u.size = k := by have := bsize u; rw [hu, List.length_take, bsize, ht] at this; omega
  have hsl := stCells_length _ h.wf.s64
  have c0 := cell_blk h.dp 0
  simp only [List.getElem?_toArray, List.getElem?_cons_zero] at c0
  have hds := h.ds
  have hlp := blk_lt h.dp
  have hls := blk_lt h.ds
  have hab : 0 ≤ a ∧ a < b ∧ b ≤ (64 * st.sect.length : Nat) ∧ a + 64 = b ∧ a < (64 * st.sect.length : Nat) := by omega
  have hat : a.toNat = 64 * i := by omega
  have hbd : 64 * i + 64 ≤ 64 * st.sect.length := by omega
  clear ha hb
  obtain ⟨a0, a1, a2, a3, a4⟩ := hab
  generalize hm : 64 * st.sect.length = m at *
  have hm2 : m ≤ 256000 := by omega
  have HM := Lib.hid hm
  have HU := Lib.hid hu
  have HS := Lib.hid hus
  have HL := Lib.hid hsl
  have HA := Lib.hid hat
  have HD := Lib.hid hds
  have H3 := Lib.hid a3
  clear hm hu hus hsl hat hds a3
  have hus' : u.size ≤ 64 := by rw [HS.out]; exact hk
  have hsz : (b - a).toNat = 64 := by have := H3.out; omega
  have HZ := Lib.hid hsz
  clear hsz
  have b0 : 0 ≤ b := by omega
  have hle : a ≤ b := by omega
  have hne : ¬ m = a.toNat := by omega
  go_enter Tryd.func26, Tryd.ntmps26
  go_wp2
  go_region_law (refine step_copy_string rfl (.tmp 14) (.tmp 15) 51 9 rfl 5 Tryd.underlying51 (by kernel_rfl) _ _ _ _ _ rfl rfl (stCells st.sect) 5 ((Below.heap_alloc w _ s hls).trans HD.out) (by have := H3.out; omega) (by have := HL.out; have := HA.out; omega) ?_; intro w1 hg1 hgr1)
  all_goals (go_end0; exact set_fin h hi ht hk HU.out HA.out (hg1.out) hgr1)
end Go.Proofs.YtpdhjfnddnoghaaDoor
