/- The law JournalAtomic: the walk.
   Conditions: the arguments lie in memory; the library's tables and sentinels are laid. -/
import Derived.Test.YtpdhjfnddnoghaaDoorJI2
namespace Go.Proofs.YtpdhjfnddnoghaaDoor
open Go.RowKit Go.Lib
set_option linter.unusedVariables false
set_option linter.unusedSimpArgs false
attribute [local go_sem high] max2_num max_of_two min2_num min_of_two

structure AS (B : Nat) (w0 : World) (n k d : Nat) (F G : Nat → Prop) (st : DS) (c : Nat) (recs : List ByteArray) (jv bv : Value) (wr : World) : Prop where
  own : Own B w0 wr F d st
  jn : ∃ jp, jv = .pointer (some ⟨jp, 0, none⟩) ∧ JAt wr G jp d ⟨n, c, recs, false⟩
  gf : ∀ k, G k → ¬ F k
  gb : ∀ k, G k → B ≤ k
  calm : Calm n c recs st
  bef : TextsOut wr (fun k => F k ∨ G k) bv recs
  len : recs.length ≤ 20 * k
theorem mod_at (x : Int) (h : i64ok x) : 0 ≤ mx 0 (x.tmod 100) ∧ mx 0 (x.tmod 100) ≤ 99 := by
  have h1 := Int.tmod_lt_of_pos x (show (0 : Int) < 100 by omega)
  unfold mx
  split <;> omega
set_option maxRecDepth 100000 in
set_option maxHeartbeats 16000000 in
theorem atomic_walk (W : World) (hl : LaidJ W) (sec : Int) (hsec : i64ok sec) (v : Value) (l : List Op0) (harg : OpsArg W.heap.size W v l) :
    Calls Tryd.prog 7 #[.int .i64 sec, v] W fun e w' => e = .returned (.bool true) ∧ Below W.heap.size W w' := by
  have HL := Lib.hid hl
  have HARG := Lib.hid harg
  have hh := head_calls W fun X hX => hl.below hX
  clear hl harg
  go_enter Tryd.func7, Tryd.ntmps7
  go_wp2_with fail
  refine hh.mono ?_
  clear hh
  rintro e w1 ⟨rfl, hb1⟩
  have HB1 := Lib.hid hb1
  have HARG1 := Lib.hid ((HARG.out.below hb1).more hb1.size)
  clear hb1
  go_wp2_with fail
  refine (light_calls w1 sec hsec v l HARG1.out).mono ?_
  rintro e w2 ⟨b, rfl, hli, hww⟩
  have hww' : w2 = w1 := hww.symm
  subst hww'
  cases b with
  | false =>
    clear hli
    go_wp2_with fail
    go_ret
    exact ⟨rfl, HB1.out⟩
  | true =>
    have HLI := Lib.hid (hli rfl)
    clear hli hww
    have HLU : Hid (∀ X, Below w2.heap.size w2 X → LaidJ X) := by
      show ∀ X, _
      intro X hX
      exact (HL.out.below HB1.out).below hX
    by_cases h1 : sec < 1
    · go_wp2_with fail
      refine (new_no w2 sec (.inl h1)).mono ?_
      rintro e w3 ⟨rfl, rfl⟩
      go_wp2_with fail
      refine (open_nil w2).mono ?_
      rintro e w3 ⟨rfl, rfl⟩
      go_wp2_with fail
      go_ret
      exact ⟨rfl, HB1.out⟩
    obtain ⟨n, rfl⟩ := Int.eq_ofNat_of_zero_le (show 0 ≤ sec by omega)
    have hn40 : n ≤ 40 := by have := HLI.out.n40; omega
    have hl16 := HLI.out.l16
    have hnew := new_ok w2 n (by omega) (by omega)
    clear h1
    go_wp2_with fail
    refine hnew.mono ?_
    clear hnew
    rintro e w3 ⟨d, F, rfl, hd, hb, hF⟩
    have HOW3 : Hid (Own w2.heap.size w2 w3 F d (DS.new n)) := ⟨hd, hF, hb, hb.size⟩
    clear hd hb hF
    have ho := open_calls (HOW3.out.laid HLU.out) HOW3.out.dk (by simp [DS.new])
    by_cases h3 : n < 3
    · have HM2 : Hid ((DS.new n).openM = (DS.new n, none, 1)) := by
        show _ = _
        unfold DS.openM
        rw [if_neg (by simp [DS.new]), if_pos (by rw [DS.all_len]; simp [DS.new]; omega)]
      go_wp2_with fail
      refine ho.mono ?_
      clear ho
      rintro e w4 hoo
      obtain ⟨F4, hk, hOw, hc⟩ := HOW3.out.open hoo
      rw [HM2.out] at hc hOw
      rcases hc with ⟨_, rfl⟩ | ⟨js, jj, GG, vv, h9, _⟩
      rotate_left
      · cases h9
      have HBE := Lib.hid (HB1.out.trans (hOw.be.mono HB1.out.size))
      clear hoo hk hOw
      go_wp2_with fail
      go_ret
      exact ⟨rfl, HBE.out⟩
    have HC0 := Lib.hid (calm_new n (by omega) (by omega))
    go_wp2_with fail
    refine ho.mono ?_
    clear ho
    rintro e w4 hoo
    obtain ⟨F4, hk, hOw, hc⟩ := HOW3.out.open hoo
    rw [calm_open HC0.out] at hc hOw
    rcases hc with ⟨h9, _⟩ | ⟨js, jp, G4, lv, h9, rfl, hja, hgf, hgn, _, hlt⟩
    · cases h9
    injection h9 with h9
    subst h9
    have HAS : Hid (AS w2.heap.size w2 n 0 d F4 G4 (DS.new n) 0 [] (.pointer (some ⟨jp, 0, none⟩)) lv w4) := ⟨hOw, ⟨jp, rfl, hja⟩, hgf, fun k hk1 => Nat.le_trans HOW3.out.sz (hgn k hk1), HC0.out, hlt, by simp⟩
    clear hoo hk hOw hja hgf hgn hlt HOW3
    obtain ⟨A, cap, hve, hA⟩ := HARG1.out.ex
    subst hve
    have HAE := Lib.hid (show 0 < l.length → ∃ b off, A = some ⟨b, off, none⟩ by intro h; obtain ⟨b, off, h1, _⟩ := hA h; exact ⟨b, off, h1⟩)
    clear hA h3
    obtain ⟨B, hB⟩ : ∃ B, w2.heap.size = B := ⟨_, rfl⟩
    have HBE := Lib.hid hB
    have HB1B : Hid (∀ X, Below B w2 X → Below W.heap.size W X) := by
      show ∀ X, _
      intro X hX
      rw [← hB] at hX
      exact HB1.out.trans (hX.mono HB1.out.size)
    simp only [hB] at HLU HAS HARG1
    clear hB
    go_wp2_with fail
    go_loopw [7, 8, 10] (fun jv bv iv wr => ∃ (k : Nat) (F G : Nat → Prop) (st : DS) (c : Nat) (recs : List ByteArray), k ≤ l.length ∧ iv = .int .i64 k ∧ AS B w2 n k d F G st c recs jv bv wr) (fun _ _ iv _ => l.length - (Go.RowKit.intOf iv).toNat)
    case atStart => exact ⟨0, F4, G4, DS.new n, 0, [], Nat.zero_le _, rfl, HAS.out⟩
    case round =>
      obtain ⟨k, F, G, st, c, recs, hk, rfl, has⟩ := hrel
      obtain ⟨jp, hjv, hjn⟩ := has.jn
      subst hjv
      have HAS1 := Lib.hid has
      have hrl := has.len
      have hcb := has.calm.bound
      have hBe := has.own.be
      have hwB : B ≤ wr.heap.size := has.own.sz
      obtain ⟨BA, bcap, hbv, _⟩ := id has.bef
      subst hbv
      clear has HAS
      by_cases hlt : k < l.length
      · obtain ⟨b0, off0, hAe⟩ := HAE.out (by omega)
        have hin := List.getElem_mem hlt
        obtain ⟨hsm, htx, h20⟩ := HLI.out.each _ hin
        have harg := HARG1.out.below hBe
        obtain ⟨A', cap', hve', hc0⟩ := harg.ex
        injection hve' with e1 _ e2
        subst e1 e2
        obtain ⟨b, off, hAe', hbl, hc⟩ := hc0 (by omega)
        clear hc0
        subst hAe'
        injection hAe with hAe
        injection hAe with e3 e4 _
        subst e3 e4
        have x1 := hc k hlt 1 _ rfl
        have x2 := hc k hlt 2 _ rfl
        have x3 := hc k hlt 3 _ rfl
        have x4 := hc k hlt 4 _ rfl
        have htin := harg.txt _ hin
        obtain ⟨ha2, ha3, ha4, _⟩ := harg.nums _ hin
        obtain ⟨o, hoe⟩ : ∃ o, l[k] = o := ⟨_, rfl⟩
        rw [hoe] at x1 x2 x3 x4 htin hsm htx h20 ha2 ha3 ha4
        obtain ⟨LA, lcap, hlv, _⟩ := id htin
        obtain ⟨xs, hxs⟩ : ∃ xs, o.recs = xs := ⟨_, rfl⟩
        rw [hxs] at htin hsm htx h20 hlv
        rw [hlv] at x1 htin
        obtain ⟨oa, hoa⟩ : ∃ oa, o.at_ = oa := ⟨_, rfl⟩
        obtain ⟨ow, how⟩ : ∃ ow, o.writes = ow := ⟨_, rfl⟩
        obtain ⟨ob, hob⟩ : ∃ ob, o.bytes = ob := ⟨_, rfl⟩
        rw [hoa] at x2 ha2
        rw [how] at x3 ha3
        rw [hob] at x4 ha4
        have HTIN := Lib.hid htin
        have HSM := Lib.hid hsm
        have HXB : Hid (∀ X, Below B w2 X → X.cell? ⟨b, off + k * 5 + 1, none⟩ = some (.slice LA xs.length lcap) ∧ X.cell? ⟨b, off + k * 5 + 2, none⟩ = some (.int .i64 oa) ∧ X.cell? ⟨b, off + k * 5 + 3, none⟩ = some (.int .i64 ow) ∧ X.cell? ⟨b, off + k * 5 + 4, none⟩ = some (.int .i64 ob)) := by
          show ∀ X, _
          intro X hX
          have hg : ∀ j, X.cell? ⟨b, off + k * 5 + j, none⟩ = wr.cell? ⟨b, off + k * 5 + j, none⟩ := fun j => (hX.cell (p := ⟨b, off + k * 5 + j, none⟩) hbl).trans (hBe.cell (p := ⟨b, off + k * 5 + j, none⟩) hbl).symm
          exact ⟨(hg 1).trans x1, (hg 2).trans x2, (hg 3).trans x3, (hg 4).trans x4⟩
        have HTX : Hid (∀ X, Below B w2 X → TextsIn B X (.slice LA xs.length lcap) xs) := by
          show ∀ X, _
          intro X hX
          obtain ⟨A5, c5, e5, h5⟩ := HTIN.out
          refine ⟨A5, c5, e5, fun hp => ?_⟩
          obtain ⟨b5, o5, e6, hl5, hc5⟩ := h5 hp
          exact ⟨b5, o5, e6, hl5, fun m hm => ((hX.cell (p := ⟨b5, o5 + m, none⟩) hl5).trans (hBe.cell (p := ⟨b5, o5 + m, none⟩) hl5).symm).trans (hc5 m hm)⟩
        have hlt2 : (k : Int) < (l.length : Int) := by omega
        have hbw : b < wr.heap.size := Nat.lt_of_lt_of_le hbl hwB
        have HBEF := Lib.hid HAS1.out.bef.at_
        obtain ⟨hm0, hm99⟩ := mod_at oa ha2
        obtain ⟨am, ham⟩ : ∃ am, mx 0 (oa.tmod 100) = am := ⟨_, rfl⟩
        rw [ham] at hm0 hm99
        have HAM := Lib.hid ham
        clear hc harg hoe hxs hlv hoa how hob hsm htin x2 x3 x4 hBe ham
        go_wp2_with fail
        go_cut [11] from 45 to 53 (fun tv wx => wx.ownsRow wr.heap.size 9 1 tv (0 + recs.length + xs.length) (strs [] ++ strs recs ++ strs xs) ∧ Below wr.heap.size wr wx)
        case first =>
          have H0 : Hid ((wr.alloc (.cells #[] 9)).ownsRow wr.heap.size 9 1 (.slice (some ⟨wr.heap.size, 0, none⟩) 0 0) 0 (strs [])) := World.ownsRow_made wr #[] 0 (Nat.le_refl _) (by simp [maxLen]) rfl
          have y1 := (World.cell?_alloc_lt wr (.cells #[] 9) ⟨b, off + k * 5 + 1, none⟩ hbw).trans x1
          have hta : TextsAt (wr.alloc (.cells #[] 9)) (.slice BA recs.length bcap) recs := HBEF.out.below ((Below.refl _ _).alloc (Nat.le_refl _) _)
          have HTA := Lib.hid (hta.below (w' := (wr.alloc (.cells #[] 9)).drew) ⟨rfl, rfl, rfl, Nat.le_refl _, fun _ _ => rfl⟩)
          have HBD : Hid (Below wr.heap.size wr (wr.alloc (.cells #[] 9)).drew) := ((Below.refl _ _).alloc (Nat.le_refl _) _).trans (show Below wr.heap.size (wr.alloc (.cells #[] 9)) (wr.alloc (.cells #[] 9)).drew from ⟨rfl, rfl, rfl, Nat.le_refl _, fun _ _ => rfl⟩)
          have HWB : Hid (Below B w2 wr) := HAS1.out.own.be
          clear hta
          go_region_held3 (fun X => X.cell? ⟨b, off + k * 5 + 1, none⟩ = some (.slice LA xs.length lcap))
            (first | exact nc1 | exact na1 | exact y1 | exact x1)
            (first
              | (refine step_append_texts (by rfl) _ _ (by rfl) wr.heap.size v6 (0 + recs.length) (strs [] ++ strs recs) (by rfl) HOWN6.out LA lcap xs (by rfl) HT6.out (by simp only [maxLen]; omega) (by omega) HB6.out.size ?_; intro v7 w7 hown7 hg7 hat7; have hb7 : Below wr.heap.size wr w7 := HB6.out.grown hg7 HB6.out.size (fun g hg => (HOWN6.out.lt g hg).1); have nc1 := (hb7.cell (p := ⟨b, off + k * 5 + 1, none⟩) hbw).trans x1; have HOWN7 := Lib.hid hown7; have HB7 := Lib.hid hb7; clear hown7 hg7 hat7 hb7)
              | (refine step_append_texts (by rfl) _ _ (by rfl) wr.heap.size (.slice (some ⟨wr.heap.size, 0, none⟩) 0 0) 0 (strs []) (by rfl) H0.out.drew BA bcap recs (by rfl) HTA.out (by simp only [maxLen]; omega) (by omega) HBD.out.size ?_; intro v6 w6 hown6 hg6 hat6; have hb6 : Below wr.heap.size wr w6 := HBD.out.grown hg6 HBD.out.size (fun g hg => (H0.out.lt g hg).1); have na1 := (hb6.cell (p := ⟨b, off + k * 5 + 1, none⟩) hbw).trans x1; have HT6 : Hid (TextsAt w6 (.slice LA xs.length lcap) xs) := ((HTX.out wr HWB.out).out (F := fun _ => False) hwB (fun k h => h.elim)).at_.below hb6; have HOWN6 := Lib.hid hown6; have HB6 := Lib.hid hb6; clear hown6 hg6 hat6 hb6))
          all_goals
            go_wp2_with fail
            go_meet
            exact ⟨HOWN7.out, HB7.out⟩
        case rest =>
          obtain ⟨hown11, hb11⟩ := hcut
          have hrow : wc.ownsRow wr.heap.size 9 1 u11 (recs ++ xs).length (strs (recs ++ xs)) := by
            have e1 : strs (recs ++ xs) = strs [] ++ strs recs ++ strs xs := by simp [strs]
            rw [e1, List.length_append, show recs.length + xs.length = 0 + recs.length + xs.length by omega]
            exact hown11
          have HOW11 := Lib.hid (HAS1.out.own.below hb11)
          have HJ11 : Hid (JAt wc G jp d ⟨n, c, recs, false⟩ ∧ ∀ k, G k → ¬ F k) := ⟨hjn.below hb11, HAS1.out.gf⟩
          have HGB11 : Hid (∀ k, G k → B ≤ k) := HAS1.out.gb
          have HU11 : Hid (TextsOut wc (fun k => F k ∨ G k) (.slice BA recs.length bcap) recs) := HAS1.out.bef.kept (Kept.below hb11)
          have HUA11 : Hid (TextsOut wc (fun k => F k ∨ G k) u11 (recs ++ xs)) := TextsOut.new (w := wr) hrow fun k hk => hk.elim (HAS1.out.own.lt k) (hjn.lt k)
          have HC := Lib.hid HAS1.out.calm
          clear hown11 hb11 hrow HAS1 hjn HBEF hbw x1
          obtain ⟨st2, js2, f, hE2, hjs2, c2, recs2, hB2, hor2, hf0, hf1⟩ := atomic_append HC.out xs hm0 (show i64ok am by unfold i64ok; omega) ha3 ha4
          have hq2 := appendM_q (st.arm am ow ob) ⟨n, c, recs, false⟩ xs
          rw [hE2, arm_queue, HC.out.q, piecesL_length] at hq2
          have hq2' : st2.queue.length ≤ 1000 := by simp only [List.length_nil] at hq2; omega
          have HE2 := Lib.hid hE2
          have HB2 := Lib.hid hB2
          have HOR2 := Lib.hid (show (recs2 = recs ∨ recs2 = recs ++ xs) ∧ (f = 0 → recs2 = recs ++ xs) ∧ (f ≠ 0 → f ≠ 26 → recs2 = recs) from ⟨hor2, hf0, hf1⟩)
          have hrl2 : recs2.length ≤ 20 * (k + 1) := by rcases hor2 with h | h <;> rw [h] <;> (try simp only [List.length_append]) <;> omega
          clear hE2 hB2 hor2 hf0 hf1 hq2 hjs2
          obtain ⟨z1, z2, z3, z4⟩ := HXB.out wc HOW11.out.be
          have ham := HAM.out
          clear z1
          go_wp2_with fail
          clear ham
          have hOd := HOW11.out.below (show Below wc.heap.size wc wc.drew from ⟨rfl, rfl, rfl, Nat.le_refl _, fun _ _ => rfl⟩)
          have hx := arm_calls hOd.dk am ow ob (show i64ok am by unfold i64ok; omega) ha3 ha4
          go_region_held3 (fun X => X.cell? ⟨b, off + k * 5 + 3, none⟩ = some (.int .i64 ow) ∧ X.cell? ⟨b, off + k * 5 + 4, none⟩ = some (.int .i64 ob))
            (first | exact ⟨n3, n4⟩ | exact ⟨z3, z4⟩)
            (first | (go_at_call 22; (with_reducible refine hx.mono ?_); rintro e w13 ht; obtain ⟨rfl, F13, hd13, hk13⟩ := Kept.turns ht; have hO13 := hOd.kept hk13 hd13; obtain ⟨n1, n2, n3, n4⟩ := HXB.out w13 hO13.be; have HOW13 := Lib.hid hO13; have HK13 := Lib.hid hk13; clear ht hO13 hd13 hk13 n1 n2))
          have HDR : Hid (Kept F wc wc.drew F) := Kept.below ⟨rfl, rfl, rfl, Nat.le_refl _, fun _ _ => rfl⟩
          have HJ12 := Lib.hid (HJ11.out.1.kept HDR.out HJ11.out.2)
          have HJ13 := Lib.hid (HJ12.out.1.kept HK13.out HJ12.out.2)
          have HU13 := Lib.hid ((HU11.out.kept HDR.out.union).kept HK13.out.union)
          have HUA13 := Lib.hid ((HUA11.out.kept HDR.out.union).kept HK13.out.union)
          clear hx hOd HOW11 HJ11 HJ12 HU11 HUA11 HDR HK13 z2 z3 z4 n3 n4
          obtain ⟨n1, n2, n3, n4⟩ := HXB.out w13 HOW13.out.be
          have ha := append_calls (HOW13.out.laid HLU.out) HOW13.out.dk HJ13.out.1 HJ13.out.2 (.slice LA xs.length lcap) xs ((HTX.out w13 HOW13.out.be).out HOW13.out.sz fun k hk => hk.elim (HOW13.out.lo k) (HGB11.out k)) HSM.out (.inl (by omega)) (by show n ≤ 1000; omega) (by show c + 2 ≤ n; omega) (by rw [arm_queue, HC.out.q]; simp) (by show recs.length ≤ 100000; omega)
          rw [HE2.out] at ha
          clear n2 n3 n4
          go_wp2_with fail
          refine ha.mono ?_
          clear ha
          rintro e w14 hao
          obtain ⟨rfl, F14, G14, hOw, _, _, _, hk⟩ := HOW13.out.app2 HJ13.out.1 HGB11.out hao
          have HOW14 := Lib.hid hOw
          have HW14 : Hid (TextsOut w14 F14 (.slice BA recs.length bcap) recs) := (HU13.out.kept hk).weak fun k hk => .inl hk
          have HT14 : Hid (TextsOut w14 F14 u11 (recs ++ xs)) := (HUA13.out.kept hk).weak fun k hk => .inl hk
          clear hao hOw hk HOW13 HJ13 HU13 HUA13 HGB11 n1 HE2
          have hx := fail_calls HOW14.out.dk 0 0 (by unfold i64ok; omega) (by unfold i64ok; omega) (by show st2.queue.length ≤ _; omega)
          go_wp2_with fail
          refine hx.mono ?_
          clear hx
          rintro e w15 ht
          obtain ⟨rfl, F15, hd15, hk15⟩ := Kept.turns ht
          have HOW15 := Lib.hid (HOW14.out.kept hk15 hd15)
          have HW15 := Lib.hid (HW14.out.kept hk15)
          have HT15 := Lib.hid (HT14.out.kept hk15)
          clear ht hd15 hk15
          clear HOW14 HW14 HT14
          have hx := start_calls HOW15.out.dk
          go_wp2_with fail
          refine hx.mono ?_
          clear hx
          rintro e w16 ht
          obtain ⟨rfl, F16, hd16, hk16⟩ := Kept.turns ht
          have HOW16 := Lib.hid (HOW15.out.kept hk16 hd16)
          have HW16 := Lib.hid (HW15.out.kept hk16)
          have HT16 := Lib.hid (HT15.out.kept hk16)
          clear ht hd16 hk16
          clear HOW15 HW15 HT15
          have hOd := HOW16.out.below (show Below w16.heap.size w16 w16.drew from ⟨rfl, rfl, rfl, Nat.le_refl _, fun _ _ => rfl⟩)
          have hm5 : 0 ≤ am.tmod 5 ∧ am.tmod 5 ≤ 4 := by rw [Int.tmod_eq_emod_of_nonneg hm0]; omega
          have HB5 := Lib.hid (back_open HB2.out hm5.1 (show i64ok (am.tmod 5) by unfold i64ok; omega) ha4 ha3)
          have hx := arm_calls hOd.dk (am.tmod 5) ob ow (show i64ok (am.tmod 5) by unfold i64ok; omega) ha4 ha3
          obtain ⟨z1, z2, z3, z4⟩ := HXB.out w16 HOW16.out.be
          clear z1 z2
          go_wp2_with fail
          go_region_held3 (fun X => X.cell? ⟨b, off + k * 5 + 3, none⟩ = some (.int .i64 ow) ∧ X.cell? ⟨b, off + k * 5 + 4, none⟩ = some (.int .i64 ob))
            (first | exact ⟨n3, n4⟩ | exact ⟨z3, z4⟩)
            (first | (go_at_call 22; (with_reducible refine hx.mono ?_); rintro e w17 ht; obtain ⟨rfl, F17, hd17, hk17⟩ := Kept.turns ht; have hO17 := hOd.kept hk17 hd17; obtain ⟨n1, n2, n3, n4⟩ := HXB.out w17 hO17.be; have HOW17 := Lib.hid hO17; have HK17 := Lib.hid hk17; clear ht hO17 hd17 hk17 n1 n2))
          have HDR : Hid (Kept F16 w16 w16.drew F16) := Kept.below ⟨rfl, rfl, rfl, Nat.le_refl _, fun _ _ => rfl⟩
          have HW17 := Lib.hid ((HW16.out.kept HDR.out).kept HK17.out)
          have HT17 := Lib.hid ((HT16.out.kept HDR.out).kept HK17.out)
          clear hx hOd HOW16 HW16 HT16 HDR HK17 z3 z4 n3 n4
          obtain ⟨st5, jo, g, hE5, hg5, hB6⟩ := HB5.out
          have ho := open_calls (HOW17.out.laid HLU.out) HOW17.out.dk (by rw [arm_queue, HB2.out.q]; simp)
          have hq5 : st5.queue.length ≤ 100 := by
            have h := hq_open hE5
            rw [arm_queue, HB2.out.q] at h
            simp only [List.length_nil] at h
            omega
          have HE5 := Lib.hid hE5
          have HG5 := Lib.hid hg5
          have HB6 := Lib.hid hB6
          have hg026 : g = 0 ∨ g = 26 := hg5.elim (fun h => .inl h.1) fun h => .inr h.1
          clear hE5 hg5 hB6 HB5
          go_wp2_with fail
          refine ho.mono ?_
          clear ho
          rintro e w18 hoo
          obtain ⟨F18, jv18, ev, er, hk, hOw, rfl, hev, her0, herl⟩ := HOW17.out.early hoo HE5.out HG5.out
          have HOW18 := Lib.hid hOw
          have HW18 := Lib.hid (HW17.out.kept hk)
          have HT18 := Lib.hid (HT17.out.kept hk)
          have HM18 := Lib.hid hev
          have HER := Lib.hid her0
          clear hoo hk hOw hev her0 HOW17 HW17 HT17 HE5 HG5
          have hx := fail_calls HOW18.out.dk 0 0 (by unfold i64ok; omega) (by unfold i64ok; omega) (by omega)
          go_wp2_with fail
          refine hx.mono ?_
          clear hx
          rintro e w19 ht
          obtain ⟨rfl, F19, hd19, hk19⟩ := Kept.turns ht
          have HOW19 := Lib.hid (HOW18.out.kept hk19 hd19)
          have HW19 := Lib.hid (HW18.out.kept hk19)
          have HT19 := Lib.hid (HT18.out.kept hk19)
          have HM19 := Lib.hid (HM18.out.kept hk19)
          clear ht hd19 hk19
          clear HOW18 HW18 HT18 HM18
          have hx := start_calls HOW19.out.dk
          go_wp2_with fail
          refine hx.mono ?_
          clear hx
          rintro e w20 ht
          obtain ⟨rfl, F20, hd20, hk20⟩ := Kept.turns ht
          have HOW20 := Lib.hid (HOW19.out.kept hk20 hd20)
          have HW20 := Lib.hid (HW19.out.kept hk20)
          have HT20 := Lib.hid (HT19.out.kept hk20)
          have HM20 := Lib.hid (HM19.out.kept hk20)
          clear ht hd20 hk20
          clear HOW19 HW19 HT19 HM19
          obtain ⟨st7, hE7, hC7⟩ := back_last HB6.out
          have HE7 := Lib.hid hE7
          have HC7 := Lib.hid hC7
          have HB6Q : Hid (((st5.fail 0 0).start).queue = []) := HB6.out.q
          clear hE7 hC7
          have ho := open_calls (HOW20.out.laid HLU.out) HOW20.out.dk (by rw [HB6Q.out]; simp)
          go_wp2_with fail
          refine ho.mono ?_
          clear ho
          rintro e w21 hoo
          obtain ⟨F21, hk, hOw, hc⟩ := HOW20.out.open hoo
          rw [HE7.out] at hc hOw
          rcases hc with ⟨h9, _⟩ | ⟨js, kp, GK, gv, h9, rfl, hja, hgf, hgn, hmt, hmu⟩
          · cases h9
          injection h9 with h9
          subst h9
          obtain ⟨GA, gcap, hgv, _⟩ := id hmt
          subst hgv
          have HGK : Hid (∀ k, GK k → B ≤ k) := by show ∀ k, _; intro k hk1; exact Nat.le_trans HOW20.out.sz (hgn k hk1)
          have HOW21 := Lib.hid hOw
          have HW21 := Lib.hid (HW20.out.kept hk)
          have HT21 := Lib.hid (HT20.out.kept hk)
          have HM21 := Lib.hid (HM20.out.kept hk)
          have HK21 : Hid (JAt w21 GK kp d ⟨n, c2, recs2, false⟩ ∧ ∀ k, GK k → ¬ F21 k) := ⟨hja, hgf⟩
          have HUG21 := Lib.hid hmu
          have HN21 := Lib.hid hmt
          clear hoo hk hOw hja hgf hgn hmt hmu HOW20 HW20 HT20 HM20
          obtain ⟨b1, hb1⟩ : ∃ b1, decide (recs2 = recs) = b1 := ⟨_, rfl⟩
          obtain ⟨b2, hb2⟩ : ∃ b2, decide (recs2 = recs ++ xs) = b2 := ⟨_, rfl⟩
          obtain ⟨b3, hb3⟩ : ∃ b3, decide (er = recs2) = b3 := ⟨_, rfl⟩
          have HBB : Hid ((b1 = true ∨ b2 = true) ∧ (f = 0 → b2 = true) ∧ (f ≠ 0 → f ≠ 26 → b1 = true) ∧ (g = 0 → b3 = true)) := by
            have h := HOR2.out
            rw [← hb1, ← hb2, ← hb3]
            exact ⟨h.1.imp decide_eq_true decide_eq_true, fun h0 => decide_eq_true (h.2.1 h0), fun h0 h1 => decide_eq_true (h.2.2 h0 h1), fun h0 => decide_eq_true (HER.out h0)⟩
          have hx1 := rsame_calls w21 _ _ recs2 recs HN21.out.at_ HW21.out.at_ (by omega) (by omega)
          rw [hb1] at hx1
          clear hb1
          go_wp2_with fail
          refine hx1.mono ?_
          clear hx1
          rintro e w22 ⟨rfl, hb⟩
          have HB22 := Lib.hid hb
          have hx2 := rsame_calls w22 _ _ recs2 (recs ++ xs) (HN21.out.at_.below hb) (HT21.out.at_.below hb) (by omega) (by rw [List.length_append]; omega)
          rw [hb2] at hx2
          clear hb hb2
          go_wp2_with fail
          refine hx2.mono ?_
          clear hx2
          rintro e w23 ⟨rfl, hb⟩
          have HB23 : Hid (Below w21.heap.size w21 w23) := HB22.out.trans (hb.mono HB22.out.size)
          clear hb
          have hx3 := rsame_calls w23 _ _ er recs2 (HM21.out.at_.below HB23.out) (HN21.out.at_.below HB23.out) (by omega) (by omega)
          rw [hb3] at hx3
          clear hb3
          obtain ⟨hbor, hbf0, hbf1, hbg⟩ := HBB.out
          generalize am.tmod 5 = am5
          by_cases f0 : f = 0
          · subst f0
            obtain rfl := hbf0 rfl
            go_upto_region 24 with (fail)
            go_cut [168] from 118 to 168 (fun v wx => v = .bool false ∧ Below w23.heap.size w23 wx)
            case first =>
              clear HOW21 HW21 HT21 HM21 HK21 HUG21 HN21 HGK HC7 HBB HB22
              rcases hg026 with rfl | rfl
              · obtain rfl := hbg rfl
                cases b1
                · (go_wp2_with fail; refine hx3.mono ?_; rintro e w24 ⟨rfl, hb⟩; have HB24 := Lib.hid hb; clear hb; go_wp2_with fail; go_meet; exact ⟨rfl, HB24.out⟩)
                · (go_wp2_with fail; refine hx3.mono ?_; rintro e w24 ⟨rfl, hb⟩; have HB24 := Lib.hid hb; clear hb; go_wp2_with fail; go_meet; exact ⟨rfl, HB24.out⟩)
              · clear hx3
                cases b1
                · (go_wp2_with fail; go_meet; exact ⟨rfl, Below.refl _ _⟩)
                · (go_wp2_with fail; go_meet; exact ⟨rfl, Below.refl _ _⟩)
            case rest =>
              obtain ⟨rfl, hb24⟩ := hcut
              have HN24 : Hid (AS B w2 n (k + 1) d F21 GK st7 c2 recs2 (.pointer (some ⟨kp, 0, none⟩)) (.slice GA recs2.length gcap) wc) := by
                have hb := HB23.out.trans (hb24.mono HB23.out.size)
                exact ⟨HOW21.out.below hb, ⟨kp, rfl, HK21.out.1.below hb⟩, HK21.out.2, HGK.out, HC7.out, HUG21.out.kept (Kept.below hb), hrl2⟩
              clear hb24
              go_wp2_with fail
              go_roundw
              case rel => exact ⟨k + 1, F21, GK, st7, c2, recs2, by omega, by go_num, HN24.out⟩
              case measure => simp [Go.RowKit.intOf]; omega
          by_cases f26 : f = 26
          · subst f26
            go_upto_region 24 with (fail)
            go_cut [168] from 118 to 168 (fun v wx => v = .bool false ∧ Below w23.heap.size w23 wx)
            case first =>
              clear HOW21 HW21 HT21 HM21 HK21 HUG21 HN21 HGK HC7 HBB HB22
              rcases hg026 with rfl | rfl
              · obtain rfl := hbg rfl
                cases b1
                · obtain rfl := hbor.resolve_left (by simp)
                  (go_wp2_with fail; refine hx3.mono ?_; rintro e w24 ⟨rfl, hb⟩; have HB24 := Lib.hid hb; clear hb; go_wp2_with fail; go_meet; exact ⟨rfl, HB24.out⟩)
                · cases b2
                  · (go_wp2_with fail; refine hx3.mono ?_; rintro e w24 ⟨rfl, hb⟩; have HB24 := Lib.hid hb; clear hb; go_wp2_with fail; go_meet; exact ⟨rfl, HB24.out⟩)
                  · (go_wp2_with fail; refine hx3.mono ?_; rintro e w24 ⟨rfl, hb⟩; have HB24 := Lib.hid hb; clear hb; go_wp2_with fail; go_meet; exact ⟨rfl, HB24.out⟩)
              · clear hx3
                cases b1
                · obtain rfl := hbor.resolve_left (by simp)
                  (go_wp2_with fail; go_meet; exact ⟨rfl, Below.refl _ _⟩)
                · cases b2
                  · (go_wp2_with fail; go_meet; exact ⟨rfl, Below.refl _ _⟩)
                  · (go_wp2_with fail; go_meet; exact ⟨rfl, Below.refl _ _⟩)
            case rest =>
              obtain ⟨rfl, hb24⟩ := hcut
              have HN24 : Hid (AS B w2 n (k + 1) d F21 GK st7 c2 recs2 (.pointer (some ⟨kp, 0, none⟩)) (.slice GA recs2.length gcap) wc) := by
                have hb := HB23.out.trans (hb24.mono HB23.out.size)
                exact ⟨HOW21.out.below hb, ⟨kp, rfl, HK21.out.1.below hb⟩, HK21.out.2, HGK.out, HC7.out, HUG21.out.kept (Kept.below hb), hrl2⟩
              clear hb24
              go_wp2_with fail
              go_roundw
              case rel => exact ⟨k + 1, F21, GK, st7, c2, recs2, by omega, by go_num, HN24.out⟩
              case measure => simp [Go.RowKit.intOf]; omega
          · obtain rfl := hbf1 f0 f26
            go_upto_region 24 with (fail)
            go_cut [168] from 118 to 168 (fun v wx => v = .bool false ∧ Below w23.heap.size w23 wx)
            case first =>
              clear HOW21 HW21 HT21 HM21 HK21 HUG21 HN21 HGK HC7 HBB HB22
              rcases hg026 with rfl | rfl
              · obtain rfl := hbg rfl
                cases b2
                · (go_wp2_with fail; refine hx3.mono ?_; rintro e w24 ⟨rfl, hb⟩; have HB24 := Lib.hid hb; clear hb; go_wp2_with fail; go_meet; exact ⟨rfl, HB24.out⟩)
                · (go_wp2_with fail; refine hx3.mono ?_; rintro e w24 ⟨rfl, hb⟩; have HB24 := Lib.hid hb; clear hb; go_wp2_with fail; go_meet; exact ⟨rfl, HB24.out⟩)
              · clear hx3
                cases b2
                · (go_wp2_with fail; go_meet; exact ⟨rfl, Below.refl _ _⟩)
                · (go_wp2_with fail; go_meet; exact ⟨rfl, Below.refl _ _⟩)
            case rest =>
              obtain ⟨rfl, hb24⟩ := hcut
              have HN24 : Hid (AS B w2 n (k + 1) d F21 GK st7 c2 recs2 (.pointer (some ⟨kp, 0, none⟩)) (.slice GA recs2.length gcap) wc) := by
                have hb := HB23.out.trans (hb24.mono HB23.out.size)
                exact ⟨HOW21.out.below hb, ⟨kp, rfl, HK21.out.1.below hb⟩, HK21.out.2, HGK.out, HC7.out, HUG21.out.kept (Kept.below hb), hrl2⟩
              clear hb24
              go_wp2_with fail
              go_roundw
              case rel => exact ⟨k + 1, F21, GK, st7, c2, recs2, by omega, by go_num, HN24.out⟩
              case measure => simp [Go.RowKit.intOf]; omega
      · go_wp2_with fail
        go_ret
        exact ⟨rfl, HB1B.out _ HAS1.out.own.be⟩
end Go.Proofs.YtpdhjfnddnoghaaDoor
