/- The laws' text and filled; Open without a disk.
   Conditions: the operations lie in memory; the library's tables and sentinels are laid. -/
import Derived.Test.YtpdhjfnddnoghaaDoorJY
namespace Go.Proofs.YtpdhjfnddnoghaaDoor
open Go.RowKit Go.Lib
set_option linter.unusedVariables false
set_option linter.unusedSimpArgs false

set_option maxRecDepth 100000 in
theorem open_nil (w : World) : Calls Tryd.prog 15 #[.pointer none] w fun e w' => e = .returned (.tuple #[.pointer none, .slice none 0 0, .int .i64 1]) ∧ w = w' := by
  go_enter Tryd.func15, Tryd.ntmps15
  go_wp2_with fail
  go_ret3
  exact ⟨rfl, rfl⟩
/-! ### append of texts that came in -/
section
variable {P : Program}
theorem run_append_from_nil (w : World) (base : Nat) (t ty e : TypeId) (i : TypeInfo) (size : Nat) (ht : P.underlying t = some (.slice e)) (hi : P.info? e = some i) (v : Value) (n : Nat) (ys : List Value) (hown : w.ownsRow base e size v n ys) (c : Nat) :
    (Builtin.append_ #[t, t] ty #[v, .slice none 0 c]).run P w = .ok v w := by
  rcases hown.2 with ⟨rfl, rfl⟩ | ⟨g, cap, cur, rfl, _, _, hnc, _⟩
  · simp [Builtin.append_, run_underlying ht, sizeOf, typeInfo, hi, Builtin.lenOf, Builtin.firstCells]
  · simp [Builtin.append_, run_underlying ht, sizeOf, typeInfo, hi, Builtin.lenOf, Builtin.firstCells, hnc, storeCells]
end
set_option maxRecDepth 100000 in
theorem run_append_texts (w : World) (base : Nat) (ty : TypeId) (i0 : TypeInfo) (hi : Tryd.prog.info? 9 = some i0) (hz0 : i0.zero = some (.string ByteArray.empty)) (hz1 : i0.size = 1) (hz2 : i0.bytes = 16) (v : Value) (n : Nat) (ys : List Value) (hown : w.ownsRow base 9 1 v n ys)
    (A : Option Addr) (c : Nat) (xs : List ByteArray) (hv : TextsAt w (.slice A xs.length c) xs) (h63 : n + xs.length ≤ maxLen) (hbytes : (n + xs.length) * 16 ≤ 140737488355328) (hbase : base ≤ w.heap.size) :
    ∃ v' w', (Builtin.append_ #[27, 27] ty #[v, .slice A xs.length c]).run Tryd.prog w = .ok v' w' ∧ w'.ownsRow base 9 1 v' (n + xs.length) (ys ++ strs xs) ∧ w.grownBy w' v.ownBlock ∧ (v'.ownBlock = v.ownBlock ∨ v'.ownBlock = some w.heap.size) := by
  have hcells : ∀ (ad : Addr), A = some ad → ∀ j u, (strs xs)[j]? = some u → w.cell? (ad.add j) = some u := by
    intro ad hA j u hu
    have hj : j < xs.length := by
      rcases Nat.lt_or_ge j xs.length with h | h
      · exact h
      · rw [List.getElem?_eq_none (by simpa [strs] using h)] at hu; cases hu
    obtain ⟨A', cap', he, h⟩ := hv
    injection he with he1 _ _
    subst he1
    obtain ⟨b, off, hb, hbl, hc⟩ := h (by omega)
    rw [hA] at hb
    injection hb with hb
    subst hb
    have hadd : (⟨b, off, none⟩ : Addr).add j = ⟨b, off + j, none⟩ := by unfold Addr.add; split <;> simp_all
    rw [hadd, hc j hj]
    have h3 : (strs xs)[j]? = some (.string xs[j]) := by simp [strs, List.getElem?_eq_getElem hj]
    rw [h3] at hu
    exact hu
  cases A with
  | none =>
    have h0 : xs = [] := by
      cases xs with
      | nil => rfl
      | cons a r =>
        obtain ⟨A', cap', he, h⟩ := hv
        injection he with he1 _ _
        obtain ⟨b, off, hb, _⟩ := h (by simp)
        rw [← he1] at hb
        cases hb
    subst h0
    exact ⟨v, w, run_append_from_nil w base _ ty _ i0 1 Tryd.underlying27 hi v n ys hown c, by simpa [strs] using hown, ⟨rfl, rfl, rfl, Nat.le_refl _, fun _ _ _ => rfl⟩, .inl rfl⟩
  | some ad =>
    obtain ⟨v', w', hrun, h2, h3, _, h5⟩ := run_append_own_at (P := Tryd.prog) w base 27 ty 9 i0 _ 1 16 Tryd.underlying27 hi hz0 hz1 hz2 rfl (by omega) v n ys hown ad xs.length c (strs xs) (by simp [strs]) (hcells ad rfl) (by intro u hu; unfold strs at hu; obtain ⟨y, _, rfl⟩ := List.mem_map.1 hu; rfl) h63 hbytes hbase
    exact ⟨v', w', hrun, h2, h3, h5⟩
set_option maxRecDepth 100000 in
theorem wpList_append_texts {ops : Array Oper} {rest : List Oper} {o : Oper} {a : Act} {w : World} {Q : Exit → Act → World → Prop} (hgd : o.guard = none) (s x : Operand)
    (ho : o.op = .call { callee := .builtin .append, args := #[s, x], argTypes := #[27, 27] }) (base : Nat) (v : Value) (n : Nat) (ys : List Value) (hs : a.eval s = v) (hown : w.ownsRow base 9 1 v n ys)
    (A : Option Addr) (c : Nat) (xs : List ByteArray) (hx : a.eval x = .slice A xs.length c) (hv : TextsAt w (.slice A xs.length c) xs) (h63 : n + xs.length ≤ maxLen) (hbytes : (n + xs.length) * 16 ≤ 140737488355328) (hbase : base ≤ w.heap.size)
    (h : ∀ v' w', w'.ownsRow base 9 1 v' (n + xs.length) (ys ++ strs xs) → w.grownBy w' v.ownBlock → (v'.ownBlock = v.ownBlock ∨ v'.ownBlock = some w.heap.size) → wpList Tryd.prog ops Q rest (a.put o.dst v') w') :
    wpList Tryd.prog ops Q (o :: rest) a w := by
  obtain ⟨i0, hi, hz0, hz1, hz2⟩ := info_parts Tryd.infoStr
  refine wpList_plain hgd fun K hK => ?_
  obtain ⟨v', w', hr, h2, h3, h4⟩ := run_append_texts w base o.type i0 hi hz0 hz1 hz2 v n ys hown A c xs hv h63 hbytes hbase
  unfold Oper.wp execOp
  simp only [ho, resolve, invoke, builtin, Sem.run_bind, Sem.run_pure, Result.andThen_ok, List.map_toArray, List.map_cons, List.map_nil, hs, hx, hr]
  exact hK _ _ (h v' w' h2 h3 h4)
/-! ### filled -/
theorem Own.grown {B : Nat} {w0 w w2 : World} {F : Nat → Prop} {d : Nat} {st : DS} {row : Option Nat} (h : Own B w0 w F d st) (hg : w.grownBy w2 row) (hr : ∀ g, row = some g → ¬ F g ∧ B ≤ g) : Own B w0 w2 F d st :=
  ⟨h.dk.apart (G := fun i => row = some i) ⟨hg.os, hg.tape, hg.output, hg.size, fun i hi hn => hg.block i hi fun e => hn e.symm⟩ fun k hk e => (hr k e).1 hk, h.lo, h.be.grown hg h.sz fun k hk => (hr k hk).2, Nat.le_trans h.sz hg.size⟩
theorem JAt.grown {w w2 : World} {G : Nat → Prop} {j d : Nat} {js : JSt} {row : Option Nat} (h : JAt w G j d js) (hg : w.grownBy w2 row) (hr : ∀ g, row = some g → ¬ G g) : JAt w2 G j d js :=
  jcells_same h (fun i hi => hg.block i (h.lt i hi) fun e => hr i e.symm hi) hg.size
structure FL (B : Nat) (w0 : World) (n k d j : Nat) (F G : Nat → Prop) (st : DS) (c : Nat) (recs : List ByteArray) (v : Value) (wr : World) : Prop where
  own : Own B w0 wr F d st
  jn : JAt wr G j d ⟨n, c, recs, false⟩
  gf : ∀ k, G k → ¬ F k
  gb : ∀ k, G k → B ≤ k
  calm : Calm n c recs st
  row : wr.ownsRow B 9 1 v recs.length (strs recs)
  rf : ∀ g, v.ownBlock = some g → ¬ F g ∧ ¬ G g
  len : recs.length ≤ 20 * k
/-- an Append that left the disk on, another block written or not -/
theorem FL.app {B : Nat} {w0 : World} {n k d j : Nat} {F G : Nat → Prop} {st : DS} {c : Nat} {recs : List ByteArray} {v : Value} {wr : World} (h : FL B w0 n k d j F G st c recs v wr) {xs : List ByteArray} {e : Ending} {w' : World} (ho : AppendOut wr F G d j (appendM st ⟨n, c, recs, false⟩ xs) e w') :
    e = .returned (.int .i64 (appendM st ⟨n, c, recs, false⟩ xs).2.2) ∧ ∃ F' G', Own B w0 w' F' d (appendM st ⟨n, c, recs, false⟩ xs).1 ∧ JAt w' G' j d (appendM st ⟨n, c, recs, false⟩ xs).2.1 ∧ (∀ k, G' k → ¬ F' k) ∧ (∀ k, G' k → B ≤ k) ∧ w'.ownsRow B 9 1 v recs.length (strs recs) ∧ (∀ g, v.ownBlock = some g → ¬ F' g ∧ ¬ G' g) := by
  obtain ⟨he, F', G', h1, h2, h3, h4, h5, h6, h7⟩ := h.own.app h.jn h.gb ho
  refine ⟨he, F', G', h1, h2, h3, h4, own_same h.row fun g hg => h7.block g (h.row.lt g hg).2 fun h8 => h8.elim (h.rf g hg).1 (h.rf g hg).2, fun g hg => ⟨fun h8 => ?_, fun h8 => ?_⟩⟩
  · rcases h5 g h8 with h9 | h9
    · exact (h.rf g hg).1 h9
    · have := (h.row.lt g hg).2; omega
  · rcases h6 g h8 with h9 | h9
    · exact (h.rf g hg).2 h9
    · have := (h.row.lt g hg).2; omega
theorem sizes_small {xs : List ByteArray} (h20 : xs.length ≤ 20) (hs : sizesN xs ≤ 6000) : Small xs ∧ (textL xs).length ≤ 10000 := by
  have key : ∀ l : List ByteArray, ∀ x ∈ l, x.size ≤ sizesN l := by
    intro l
    induction l with
    | nil => intro x hx; simp at hx
    | cons a l ih =>
      intro x hx
      unfold sizesN at *
      simp only [List.map_cons, List.sum_cons]
      rw [List.mem_cons] at hx
      rcases hx with rfl | hx
      · omega
      · have := ih x hx; omega
  have hsm : Small xs := ⟨by omega, fun x hx => by have := key xs x hx; omega⟩
  refine ⟨hsm, ?_⟩
  have len : ∀ l : List ByteArray, (∀ x ∈ l, x.size ≤ 6000) → (textL l).length ≤ sizesN l + 9 * l.length := by
    intro l
    induction l with
    | nil => intro _; simp [textL]
    | cons a l ih =>
      intro hl
      have h1 := ih fun x hx => hl x (by simp [hx])
      have h2 := (dec_len a.size (by have := hl a (by simp); omega)).2
      have h3 := bsize a
      have e : textL (a :: l) = recL a ++ textL l := rfl
      have e2 : sizesN (a :: l) = a.size + sizesN l := by simp [sizesN]
      rw [e, e2, List.length_append, List.length_cons]
      unfold recL
      rw [List.length_append, List.length_cons]
      omega
  have := len xs fun x hx => by have := key xs x hx; omega
  omega
theorem weight_each : ∀ (l : List Op0), ∀ o ∈ l, sizesN o.recs ≤ weightN l := by
  intro l
  induction l with
  | nil => intro o ho; simp at ho
  | cons a l ih =>
    intro o ho
    have e : weightN (a :: l) = sizesN a.recs + weightN l := by simp [weightN]
    rw [List.mem_cons] at ho
    rcases ho with rfl | ho
    · omega
    · have := ih o ho; omega
theorem Light.each {n : Int} {l : List Op0} (h : Light n l) : ∀ o ∈ l, Small o.recs ∧ (textL o.recs).length ≤ 10000 ∧ o.recs.length ≤ 20 := fun o ho => by
  have h1 := sizes_small (h.r20 o ho) (Nat.le_trans (weight_each l o ho) h.sum)
  exact ⟨h1.1, h1.2, h.r20 o ho⟩
def FilledOut (B : Nat) (w0 : World) (n : Nat) (l : List Op0) (e : Ending) (w' : World) : Prop :=
  ∃ d j F G st c recs v, e = .returned (.tuple #[.pointer (some ⟨d, 0, none⟩), .pointer (some ⟨j, 0, none⟩), v]) ∧ FL B w0 n l.length d j F G st c recs v w'
set_option maxRecDepth 100000 in
theorem filled_no (w : World) (n : Int) (hn : n < 3) (hn2 : -9223372036854775808 ≤ n) (v : Value) (hlu : ∀ W, Below w.heap.size w W → LaidJ W) :
    Calls Tryd.prog 10 #[.int .i64 n, v] w fun e w' => (∃ dv, e = .returned (.tuple #[dv, .pointer none, .slice none 0 0])) ∧ Below w.heap.size w w' := by
  by_cases h1 : n < 1
  · go_enter Tryd.func10, Tryd.ntmps10
    go_wp2_with fail
    refine (new_no w n (.inl h1)).mono ?_
    rintro e w1 ⟨rfl, rfl⟩
    go_wp2_with fail
    refine (open_nil w).mono ?_
    rintro e w1 ⟨rfl, rfl⟩
    go_wp2_with fail
    go_ret3
    exact ⟨⟨_, rfl⟩, Below.refl _ _⟩
  · obtain ⟨m, rfl⟩ := Int.eq_ofNat_of_zero_le (show 0 ≤ n by omega)
    have hm : (DS.new m).openM = (DS.new m, none, 1) := by
      unfold DS.openM
      rw [if_neg (by simp [DS.new]), if_pos (by rw [DS.all_len]; simp [DS.new]; omega)]
    have HLU := Lib.hid hlu
    clear hlu
    go_enter Tryd.func10, Tryd.ntmps10
    go_wp2_with fail
    refine (new_ok w m (by omega) (by omega)).mono ?_
    rintro e w1 ⟨p, F, rfl, hd, hb, hF⟩
    have hOw : Own w.heap.size w w1 F p (DS.new m) := ⟨hd, hF, hb, hb.size⟩
    have ho := open_calls (hOw.laid HLU.out) hd (by simp [DS.new])
    have HOW := Lib.hid hOw
    clear hd hb hF hOw
    go_wp2_with fail
    refine ho.mono ?_
    clear ho
    rintro e w2 hoo
    obtain ⟨F', hk, hOw2, hc⟩ := HOW.out.open hoo
    rw [hm] at hc
    rcases hc with ⟨_, rfl⟩ | ⟨js, j, G, lv, h9, _⟩
    · have HB := Lib.hid hOw2.be
      clear hoo hk hOw2
      go_wp2_with fail
      go_ret3
      exact ⟨⟨_, rfl⟩, HB.out⟩
    · cases h9
set_option maxRecDepth 100000 in
set_option maxHeartbeats 4000000 in
theorem filled_yes {w : World} {B : Nat} (hB : B = w.heap.size) (n : Nat) (hn3 : 3 ≤ n) (v : Value) (l : List Op0) (hl : OpsArg B w v l) (hli : Light n l) (hlu : ∀ W, Below B w W → LaidJ W) :
    Calls Tryd.prog 10 #[.int .i64 n, v] w (FilledOut B w n l) := by
  have hn40 : n ≤ 40 := by have := hli.n40; omega
  have hl16 := hli.l16
  obtain ⟨A, cap, hve, hA⟩ := hl.ex
  subst hve
  have HARG := Lib.hid hl
  have HLI := Lib.hid hli
  have HLU := Lib.hid hlu
  have HBE := Lib.hid hB
  have HCN := Lib.hid (calm_new n hn3 (by omega))
  have HAE := Lib.hid (show 0 < l.length → ∃ b off, A = some ⟨b, off, none⟩ by intro h; obtain ⟨b, off, h1, _⟩ := hA h; exact ⟨b, off, h1⟩)
  have hnew := new_ok w n (by omega) (by omega)
  clear hl hli hlu hA hB
  go_enter Tryd.func10, Tryd.ntmps10
  go_wp2_with fail
  refine hnew.mono ?_
  clear hnew
  rintro e w1 ⟨p, F, rfl, hd, hb, hF⟩
  have hOw : Own B w w1 F p (DS.new n) := ⟨hd, by rw [HBE.out]; exact hF, by rw [HBE.out]; exact hb, by rw [HBE.out]; exact hb.size⟩
  have ho := open_calls (hOw.laid HLU.out) hd (by simp [DS.new])
  have HOW := Lib.hid hOw
  clear hd hb hF hOw
  go_wp2_with fail
  refine ho.mono ?_
  clear ho
  rintro e w2 hoo
  obtain ⟨F', hk, hOw2, hc⟩ := HOW.out.open hoo
  have hco := calm_open HCN.out
  rw [hco] at hc hOw2
  rcases hc with ⟨h9, _⟩ | ⟨js, j, G, lv, h9, rfl, hja, hgf, hgn, _, _⟩
  · cases h9
  injection h9 with h9
  subst h9
  have hFL : FL B w n 0 p j F' G (DS.new n) 0 [] (.slice none 0 0) w2 := ⟨hOw2, hja, hgf, fun k hk1 => Nat.le_trans HOW.out.sz (hgn k hk1), HCN.out, World.ownsRow_nil _ _ _ _, fun g hg => by simp [Value.ownBlock] at hg, by simp⟩
  have HFL := Lib.hid hFL
  clear hoo hk hOw2 hco hja hgf hgn hFL HCN HOW
  go_wp2_with fail
  go_loopw [11, 12] (fun ov iv wr => ∃ (k : Nat) (F G : Nat → Prop) (st : DS) (c : Nat) (recs : List ByteArray), k ≤ l.length ∧ iv = .int .i64 k ∧ FL B w n k p j F G st c recs ov wr) (fun _ iv _ => l.length - (Go.RowKit.intOf iv).toNat)
  case atStart => exact ⟨0, F', G, DS.new n, 0, [], Nat.zero_le _, rfl, HFL.out⟩
  case round =>
    obtain ⟨k, F1, G1, st, c, recs, hk, rfl, hfl⟩ := hrel
    have HF := Lib.hid hfl
    have hBe := hfl.own.be
    have hwB : B ≤ wr.heap.size := hfl.own.sz
    have hrl := hfl.len
    have hcb := hfl.calm.bound
    clear HFL hfl
    by_cases hlt : k < l.length
    · obtain ⟨b0, off0, hAe⟩ := HAE.out (by omega)
      have hin := List.getElem_mem hlt
      obtain ⟨hsm, htx, h20⟩ := HLI.out.each _ hin
      have harg := HARG.out.below hBe
      obtain ⟨A', cap', hve', hc0⟩ := harg.ex
      injection hve' with e1 _ e2
      subst e1 e2
      obtain ⟨b, off, hAe', hbl, hc⟩ := hc0 (by omega)
      clear hc0
      subst hAe'
      injection hAe with hAe
      injection hAe with e3 e4 _
      subst e3 e4
      have x1 := hc k hlt 1 _ rfl
      have htin := harg.txt _ hin
      obtain ⟨o, hoe⟩ : ∃ o, l[k] = o := ⟨_, rfl⟩
      rw [hoe] at x1 htin hsm htx h20
      obtain ⟨LA, lcap, hlv, _⟩ := id htin
      obtain ⟨xs, hxs⟩ : ∃ xs, o.recs = xs := ⟨_, rfl⟩
      rw [hxs] at htin hsm htx h20 hlv
      rw [hlv] at x1 htin
      have hTO : TextsOut wr (fun i => F1 i ∨ G1 i) (.slice LA xs.length lcap) xs := htin.out hwB fun i hi => hi.elim (HF.out.own.lo i) (HF.out.gb i)
      have ha := append_calls (HF.out.own.laid HLU.out) HF.out.own.dk HF.out.jn HF.out.gf (.slice LA xs.length lcap) xs hTO hsm (.inl (by omega)) (by show n ≤ 1000; omega) (by show c + 2 ≤ n; omega) (by rw [HF.out.calm.q]; simp) (by show recs.length ≤ 100000; omega)
      have HTIN := Lib.hid htin
      have hlt2 : (k : Int) < (l.length : Int) := by omega
      have HST := Lib.hid (calm_append HF.out.calm xs)
      have HX1 := Lib.hid x1
      clear hc harg hoe hxs hlv hTO htin hBe
      go_wp2_with fail
      refine ha.mono ?_
      clear ha
      rintro e w3 hao
      obtain ⟨rfl, F2, G2, hOw3, hj3, hgf3, hgb3, hrow3, hrf3⟩ := HF.out.app hao
      clear hao
      rcases HST.out with ⟨_, hA1⟩ | ⟨_, _, hA1⟩ | ⟨_, _, st', hA1, hcm⟩
      · rw [hA1] at hOw3 hj3 ⊢
        have HN : Hid (FL B w n (k + 1) p j F2 G2 st c recs u11 w3) := ⟨hOw3, hj3, hgf3, hgb3, HF.out.calm, hrow3, hrf3, by omega⟩
        clear hA1 hOw3 hj3 hgf3 hgb3 hrow3 hrf3
        go_wp2_with fail
        go_roundw
        case rel => exact ⟨k + 1, F2, G2, st, c, recs, by omega, by go_num, HN.out⟩
        case measure => simp [Go.RowKit.intOf]; omega
      · rw [hA1] at hOw3 hj3 ⊢
        have HN : Hid (FL B w n (k + 1) p j F2 G2 st c recs u11 w3) := ⟨hOw3, hj3, hgf3, hgb3, HF.out.calm, hrow3, hrf3, by omega⟩
        clear hA1 hOw3 hj3 hgf3 hgb3 hrow3 hrf3
        go_wp2_with fail
        go_roundw
        case rel => exact ⟨k + 1, F2, G2, st, c, recs, by omega, by go_num, HN.out⟩
        case measure => simp [Go.RowKit.intOf]; omega
      · rw [hA1] at hOw3 hj3 ⊢
        have hb3 := hOw3.be
        have x3 : w3.cell? ⟨b, off + k * 5 + 1, none⟩ = some (.slice LA xs.length lcap) := by
          have harg3 := HARG.out.below hb3
          have h1 := HX1.out
          rw [← h1]
          exact ((hb3.cell (p := ⟨b, off + k * 5 + 1, none⟩) hbl)).trans ((HF.out.own.be.cell (p := ⟨b, off + k * 5 + 1, none⟩) hbl)).symm
        have htat : TextsAt w3 (.slice LA xs.length lcap) xs := by
          obtain ⟨A5, c5, e5, h5⟩ := HTIN.out
          refine ⟨A5, c5, e5, fun hp => ?_⟩
          obtain ⟨b5, o5, e6, hl5, hc5⟩ := h5 hp
          refine ⟨b5, o5, e6, Nat.lt_of_lt_of_le hl5 hOw3.sz, fun m hm => ?_⟩
          exact ((hb3.cell (p := ⟨b5, o5 + m, none⟩) hl5).trans (HF.out.own.be.cell (p := ⟨b5, o5 + m, none⟩) hl5).symm).trans (hc5 m hm)
        have HTAT := Lib.hid htat
        have HOW3 := Lib.hid hOw3
        have HJ3 := Lib.hid hj3
        have HGF3 := Lib.hid hgf3
        have HGB3 := Lib.hid hgb3
        have HROW3 := Lib.hid hrow3
        have HRF3 := Lib.hid hrf3
        have HCM := Lib.hid hcm
        have hw3B : B ≤ w3.heap.size := hOw3.sz
        clear hA1 hOw3 hj3 hgf3 hgb3 hrow3 hrf3 hb3 htat hcm
        go_wp2_with (at_builtin; refine wpList_append_texts rfl _ _ rfl B u11 recs.length (strs recs) rfl HROW3.out LA lcap xs rfl HTAT.out (by simp only [maxLen]; omega) (by omega) hw3B ?_; intro v2 w4 hown4 hg4 hat4)
        have hrow4 : w4.ownsRow B 9 1 v2 (recs ++ xs).length (strs (recs ++ xs)) := by
          have e1 : strs (recs ++ xs) = strs recs ++ strs xs := by simp [strs]
          rw [e1, List.length_append]
          exact hown4
        have HN : Hid (FL B w n (k + 1) p j F2 G2 st' (c + (piecesL (textL xs)).length) (recs ++ xs) v2 w4) := by
          refine ⟨HOW3.out.grown hg4 fun g hg => ⟨(HRF3.out g hg).1, (HROW3.out.lt g hg).1⟩, HJ3.out.grown hg4 fun g hg => (HRF3.out g hg).2, HGF3.out, HGB3.out, HCM.out, hrow4, fun g hg => ?_, by rw [List.length_append]; omega⟩
          rcases hat4 with h1 | h1
          · exact HRF3.out g (by rw [← h1]; exact hg)
          · rw [h1] at hg
            injection hg with hg
            subst hg
            exact ⟨fun h2 => by have := HOW3.out.lt _ h2; omega, fun h2 => by have := HJ3.out.lt _ h2; omega⟩
        clear hown4 hg4 hat4 hrow4
        go_wp2_with fail
        go_roundw
        case rel => exact ⟨k + 1, F2, G2, st', _, recs ++ xs, by omega, by go_num, HN.out⟩
        case measure => simp [Go.RowKit.intOf]; omega
    · have hke : k = l.length := by omega
      subst hke
      go_wp2_with fail
      go_ret3
      exact ⟨p, j, F1, G1, st, c, recs, _, rfl, HF.out⟩
end Go.Proofs.YtpdhjfnddnoghaaDoor
