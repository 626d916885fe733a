/- digest's blocks.
   Conditions: the state's cell lies in memory. -/
import Derived.Test.YtpdhjfnddnoghaaDoorJB
import Derived.Test.YtpdhjfnddnoghaaDoorDA
import Derived.Deep.RegionLaw
namespace Go.Proofs.YtpdhjfnddnoghaaDoor
open Go.RowKit Go.Lib
set_option linter.unusedVariables false
set_option linter.unusedSimpArgs false

/-- 'copy(dst, s)', s a string of whatever length, dst lying in row g from place o on -/
theorem run_copy_row_min {P : Program} (w : World) (dT sT ty elem : TypeId) (g o dLen dCap : Nat) (s : ByteArray) (cur : Array Value) (t : TypeId) (m : Nat) (hm : Nat.min s.size dLen = m)
    (hu : P.underlying dT = some (.slice elem)) (hs : (P.info? elem).map (·.size) = some 1) (hg : w.heap[g]? = some (.cells cur t (0, 0))) (hfit : o + m ≤ cur.size) :
    (Builtin.copy_ #[dT, sT] ty #[.slice (some ⟨g, o, none⟩) dLen dCap, .string s]).run P w =
      .ok (goInt m) (w.setRow g (cur.toList.take o ++ byteCells (s.data.toList.take m) ++ cur.toList.drop (o + m)).toArray) := by
  have hms : m ≤ s.data.toList.length := by rw [bsize, ← hm]; exact Nat.min_le_left _ _
  have hlen : (byteCells (s.data.toList.take m)).length = m := by rw [byteCells_length, List.length_take]; omega
  have hst := run_storeCells_at P g o t (byteCells (s.data.toList.take m)) 0 cur w hg (by rw [hlen]; simpa using hfit) (byteCells_one _)
  have htk : List.take m (List.map (fun b : UInt8 => Value.int IntKind.u8 (b.toNat : Int)) s.data.toList) = byteCells (s.data.toList.take m) := by
    unfold byteCells
    rw [List.map_take]
  rw [hlen] at hst
  simp only [Nat.add_zero] at hst
  cases hq : P.info? elem with
  | none => simp [hq] at hs
  | some i =>
    simp [Builtin.copy_, run_underlying hu, Builtin.lenOf, Builtin.firstCells, sizeOf, typeInfo, hq, hm]
    rw [htk, hst]
    simp [Result.andThen]
theorem step_copy_min {P : Program} {ops : Array Oper} {o : Oper} {a : Act} {w : World} {K : Act → World → Prop} {Q : Exit → Act → World → Prop} {E : Prop} (hgd : o.guard = none) (d s : Operand) (dT sT : TypeId)
    (ho : o.op = .call { callee := .builtin .copy, args := #[d, s], argTypes := #[dT, sT] }) (elem : TypeId) (hu : P.underlying dT = some (.slice elem)) (hsz : (P.info? elem).map (·.size) = some 1)
    (g off dLen dCap : Nat) (t : ByteArray) (hd : a.eval d = .slice (some ⟨g, off, none⟩) dLen dCap) (hs : a.eval s = .string t)
    (cur : List Value) (T : TypeId) (hg : w.heap[g]? = some (.cells cur.toArray T (0, 0))) (m : Nat) (hm : Nat.min t.size dLen = m) (hfit : off + m ≤ cur.length)
    (h : ∀ w', Hid (w'.heap[g]? = some (.cells (splice cur off (byteCells (t.data.toList.take m))).toArray T (0, 0))) → w.grownBy w' (some g) → K (a.put o.dst (goInt m)) w') :
    if Region.wanted o (yielded ops a.tmps) = true then Oper.wp P o a w K Q else E := by
  have hw : Region.wanted o (yielded ops a.tmps) = true := by simp [Region.wanted, hgd]
  rw [if_pos hw]
  have hrun := run_copy_row_min (P := P) w dT sT o.type elem g off dLen dCap t cur.toArray T m hm hu hsz hg (by simpa using hfit)
  have hms : m ≤ t.data.toList.length := by rw [bsize, ← hm]; exact Nat.min_le_left _ _
  have hlen : (byteCells (t.data.toList.take m)).length = m := by rw [byteCells_length, List.length_take]; omega
  unfold Oper.wp
  simp [execOp, ho, resolve, invoke, builtin, hd, hs, hrun, Result.andThen]
  refine h _ (show _ = _ from ?_) ⟨rfl, rfl, rfl, by simp [World.setRow], fun k hk hn => setRow_other w g k _ (fun e => hn (by rw [e]))⟩
  rw [setRow_heap w g _ _ T _ hg]
  simp [splice, hlen, ← List.append_assoc]
theorem eight (L : List UInt8) (h : L.length = 8) : ∃ b0 b1 b2 b3 b4 b5 b6 b7, L = [b0, b1, b2, b3, b4, b5, b6, b7] := by
  match L, h with
  | [b0, b1, b2, b3, b4, b5, b6, b7], _ => exact ⟨b0, b1, b2, b3, b4, b5, b6, b7, rfl⟩
theorem splice_pad (l : List UInt8) (m : Nat) (hm : Nat.min l.length 8 = m) : splice (List.replicate 8 (Value.int .u8 0)) 0 (byteCells (l.take m)) = byteVals (padTo 8 l) := by
  have hm8 : m ≤ 8 := by rw [← hm]; exact Nat.min_le_right _ _
  have hml : m ≤ l.length := by rw [← hm]; exact Nat.min_le_left _ _
  have hl : (byteCells (l.take m)).length = m := by rw [byteCells_length, List.length_take]; omega
  have e1 : l.take m = l.take 8 := by
    rcases Nat.le_total l.length 8 with h | h
    · have : m = l.length := by rw [← hm]; exact Nat.min_eq_left h
      rw [this, List.take_length, List.take_of_length_le h]
    · have : m = 8 := by rw [← hm]; exact Nat.min_eq_right h
      rw [this]
  have e2 : 8 - m = 8 - l.length := by
    rcases Nat.le_total l.length 8 with h | h
    · have : m = l.length := by rw [← hm]; exact Nat.min_eq_left h
      rw [this]
    · have : m = 8 := by rw [← hm]; exact Nat.min_eq_right h
      omega
  unfold splice
  rw [hl, List.take_zero, List.nil_append, Nat.zero_add, List.drop_replicate, e1, e2]
  unfold padTo byteVals byteCells
  rw [List.map_append, List.map_replicate]
  rfl
structure BSt (w : World) (q : Nat) (bs : List UInt8) (S : Nat) (i j T : Nat) (wr : World) : Prop where
  ji : j = 8 * i
  le : i ≤ bs.length / 8 + 1
  st : T = stateFrom S bs i
  lt : T < 18446744073709551616
  at_ : wr.heap[q]? = some (.cells #[.int .u64 T] 116 (0, 0))
  up : Upd (fun k => k = q) w wr
set_option maxRecDepth 100000 in
set_option maxHeartbeats 4000000 in
theorem blocks_calls (w : World) (s : ByteArray) (hs : s.size ≤ 1000000000) (q S : Nat) (hS : S < 18446744073709551616) (hq : w.heap[q]? = some (.cells #[.int .u64 S] 116 (0, 0))) :
    Calls Tryd.prog 76 #[.string s, .func (.func 77) #[.pointer (some ⟨q, 0, none⟩)] #[]] w fun e w' => e = .returned (.tuple #[]) ∧
      w'.heap[q]? = some (.cells #[.int .u64 (stateFrom S s.data.toList (s.data.toList.length / 8 + 1) : Nat)] 116 (0, 0)) ∧ Upd (fun k => k = q) w w' := by
  have HB0 : Hid (BSt w q s.data.toList S 0 0 S w) := ⟨rfl, by omega, (stateFrom_zero _ _).symm, hS, hq, Upd.refl _ _⟩
  have hbs := bsize s
  have HBS := Lib.hid hbs
  clear hq hbs
  go_enter Tryd.func76, Tryd.ntmps76
  go_wp2_with fail
  go_loopw [4] (fun iv wr => ∃ i j T : Nat, j ≤ s.size + 8 ∧ iv = .int .i64 j ∧ BSt w q s.data.toList S i j T wr) (fun iv _ => s.size + 9 - (Go.RowKit.intOf iv).toNat)
  case atStart => exact ⟨0, 0, S, by omega, rfl, HB0.out⟩
  case round =>
    obtain ⟨i, j, T, hj, rfl, hb⟩ := hrel
    have HB := Lib.hid hb
    have hql := blk_lt hb.at_
    clear hb HB0
    by_cases hlt : (j : Int) ≤ (s.size : Int)
    · have hjle : j ≤ s.size := by omega
      obtain ⟨b0, b1, b2, b3, b4, b5, b6, b7, hL⟩ := eight (padTo 8 (s.data.toList.drop j)) (padTo_length 8 _)
      obtain ⟨m, hm⟩ : ∃ m, Nat.min (s.extract j s.size).size 8 = m := ⟨_, rfl⟩
      have hext : (s.extract j s.size).data.toList = s.data.toList.drop j := by
        rw [ByteArray.data_extract, Array.toList_extract, List.extract_eq_take_drop, List.take_of_length_le]
        rw [List.length_drop, HBS.out]
        omega
      have hexl : (s.extract j s.size).size = (s.data.toList.drop j).length := by rw [← hext, bsize]
      have hm8 : m ≤ 8 := by rw [← hm]; exact Nat.min_le_right _ _
      have HSP : Hid (splice [Value.int .u8 0, Value.int .u8 0, Value.int .u8 0, Value.int .u8 0, Value.int .u8 0, Value.int .u8 0, Value.int .u8 0, Value.int .u8 0] 0 (byteCells ((s.extract j s.size).data.toList.take m)) = byteVals [b0, b1, b2, b3, b4, b5, b6, b7]) := by
        show _ = _
        rw [← hL, hext]
        rw [hexl] at hm
        exact splice_pad _ m hm
      have HM := Lib.hid hm
      have HL := Lib.hid hL
      clear hm hext hexl hL
      go_wp2_with fail
      go_region_law (refine step_copy_min rfl (.tmp 12) (.tmp 15) 51 9 rfl 5 Tryd.underlying51 (by kernel_rfl) _ _ _ _ (s.extract j s.size) rfl rfl [Value.int .u8 0, Value.int .u8 0, Value.int .u8 0, Value.int .u8 0, Value.int .u8 0, Value.int .u8 0, Value.int .u8 0, Value.int .u8 0] 131 (heap_alloc_new wr _) m HM.out (by simp; omega) ?_; intro w1 hg1 hgr1)
      all_goals
        have hg2 := hg1.out
        rw [HSP.out] at hg2
        simp only [byteVals, List.map_cons, List.map_nil] at hg2
        have c0 := cell_blk hg2 0
        have c1 := cell_blk hg2 1
        have c2 := cell_blk hg2 2
        have c3 := cell_blk hg2 3
        have c4 := cell_blk hg2 4
        have c5 := cell_blk hg2 5
        have c6 := cell_blk hg2 6
        have c7 := cell_blk hg2 7
        simp only [List.getElem?_toArray, List.getElem?_cons_zero, List.getElem?_cons_succ] at c0 c1 c2 c3 c4 c5 c6 c7
        have hne : q ≠ wr.heap.size := by omega
        have hq1 : w1.heap[q]? = some (.cells #[.int .u64 T] 116 (0, 0)) := (hgr1.block q (by simp; omega) (fun e => hne (by injection e))).trans ((Below.heap_alloc wr _ _ hql).trans HB.out.at_)
        have HQ1 := Lib.hid hq1
        have HUP : Hid (Upd (fun k => k = q) w w1) := (HB.out.up.alloc (.cells #[Value.int .u8 0, Value.int .u8 0, Value.int .u8 0, Value.int .u8 0, Value.int .u8 0, Value.int .u8 0, Value.int .u8 0, Value.int .u8 0] 131)).drew.grown hgr1 (fun k hk => .inr (by injection hk with hk; subst hk; exact HB.out.up.size))
        clear hg2 hq1 hgr1 hg1
        go_wp2_with fail
        refine (take_calls w1 q T HB.out.lt [b0, b1, b2, b3, b4, b5, b6, b7] rfl HQ1.out).mono ?_
        rintro e w2 ⟨rfl, hq2, hu2⟩
        have HN : Hid (BSt w q s.data.toList S (i + 1) (j + 8) (mixN (T ^^^ beN [b0, b1, b2, b3, b4, b5, b6, b7])) w2) := by
          refine ⟨by have := HB.out.ji; omega, ?_, ?_, mixN_lt _, hq2, HUP.out.trans hu2 (fun k hk => .inl hk)⟩
          · have h1 := HB.out.ji
            have h2 := HBS.out
            omega
          · rw [stateFrom_succ, ← HB.out.st, ← HB.out.ji, ← HL.out]
            rfl
        clear hq2 hu2
        go_wp2_with fail
        go_roundw
        case rel => exact ⟨i + 1, j + 8, _, by omega, by go_num, HN.out⟩
        case measure => simp [Go.RowKit.intOf]; omega
    · have HI : Hid (i = s.data.toList.length / 8 + 1) := by
        show _ = _
        have h1 := HB.out.ji
        have h2 := HBS.out
        have h3 := HB.out.le
        omega
      go_wp2_with fail
      go_end0
      refine ⟨rfl, ?_, HB.out.up⟩
      have h1 := HB.out.at_
      rw [HB.out.st, HI.out] at h1
      exact h1
end Go.Proofs.YtpdhjfnddnoghaaDoor
