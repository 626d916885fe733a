/- clock.two, clock.Text.
   Conditions: the library's tables and sentinels are laid. -/
import Derived.Test.YtgjombfcldihhaaDoorKF
import Derived.Test.YtgjombfcldihhaaDoorKSh
import Derived.Lib.AppendIntMem
import Derived.Lib.ItoaLen
namespace Go.Proofs.YtgjombfcldihhaaDoor
open Go.RowKit Go.Lib
set_option linter.unusedVariables false

theorem var_below {P : Program} {w w' : World} {name : String} {cs : Array Value} (h : w.var? P name = some cs) (hb : Below w.heap.size w w') : w'.var? P name = some cs := by
  unfold World.var? at *
  cases hg : P.globalNamed name with
  | none => simp [hg] at h
  | some g =>
    simp only [hg, Option.bind_some] at h ⊢
    have hlt : g < w.heap.size := by
      rcases Nat.lt_or_ge g w.heap.size with h' | h'
      · exact h'
      · rw [Array.getElem?_eq_none h'] at h; simp at h
    rw [hb.block g hlt]
    exact h
structure LaidC (w : World) : Prop where
  tab : TabIs Tryd.prog w "internal/strconv.uint64pow10" .u64 pow10Tab
  syn : ∃ tp p, w.var? Tryd.prog "strconv.ErrSyntax" = some #[.iface tp p]
  rng : ∃ tp p, w.var? Tryd.prog "strconv.ErrRange" = some #[.iface tp p]
theorem LaidC.below {w w' : World} (h : LaidC w) (hb : Below w.heap.size w w') : LaidC w' :=
  ⟨var_below h.tab hb, by obtain ⟨tp, p, e⟩ := h.syn; exact ⟨tp, p, var_below e hb⟩, by obtain ⟨tp, p, e⟩ := h.rng; exact ⟨tp, p, var_below e hb⟩⟩

def bytesB (l : List UInt8) : ByteArray := ⟨l.toArray⟩
def twoB (n : Nat) : ByteArray := bytesB (decDigits (n / 10)) ++ bytesB (decDigits (n % 10))
theorem two_calls (w : World) (n : Nat) (hn : n < 100) : Calls Tryd.prog 31 #[.int .i64 n] w fun e w' => e = .returned (.string (twoB n)) ∧ w = w' := by
  obtain ⟨q, hq⟩ : ∃ q : Nat, n / 10 = q := ⟨_, rfl⟩
  obtain ⟨r, hr⟩ : ∃ r : Nat, n % 10 = r := ⟨_, rfl⟩
  have e1 : (n : Int).tdiv 10 = (q : Int) := by rw [Int.tdiv_eq_ediv_of_nonneg (by omega)]; omega
  have e2 : (n : Int).tmod 10 = (r : Int) := by rw [Int.tmod_eq_emod_of_nonneg (by omega)]; omega
  have hq2 : q < 10 := by omega
  have hr2 : r < 10 := by omega
  have HE : Hid (twoB n = bytesB (decDigits q) ++ bytesB (decDigits r)) := by show _ = _; unfold twoB; rw [hq, hr]
  have dl : ∀ u : Nat, u < 10 → (decDigits u).length = 1 := fun u hu => by rw [decDigits, dif_pos hu]; rfl
  have s1 : (bytesB (decDigits q)).size = 1 := by show (decDigits q).toArray.size = 1; simp [dl q hq2]
  have s2 : (bytesB (decDigits r)).size = 1 := by show (decDigits r).toArray.size = 1; simp [dl r hr2]
  have h1 := fun W => Tryd.strconv_Itoa_small q (by omega) W
  have h2 := fun W => Tryd.strconv_Itoa_small r (by omega) W
  change ∀ W, Calls Tryd.prog 30 #[.int .i64 q] W fun e w' => e = .returned (.string (bytesB (decDigits q))) ∧ w' = W at h1
  change ∀ W, Calls Tryd.prog 30 #[.int .i64 r] W fun e w' => e = .returned (.string (bytesB (decDigits r))) ∧ w' = W at h2
  clear hq hr dl
  generalize bytesB (decDigits q) = bq at *
  generalize bytesB (decDigits r) = br at *
  go_enter Tryd.func31, Tryd.ntmps31
  go_wp2_with (first
    | (go_at_call 30; refine (h1 _).mono ?_; clear h1; rintro e w1 ⟨rfl, rfl⟩)
    | (go_at_call 30; refine (h2 _).mono ?_; clear h2; rintro e w1 ⟨rfl, rfl⟩))
  go_ret
  rw [HE.out]
  exact ⟨rfl, rfl⟩
def slashB : ByteArray := ⟨#[47]⟩
def colonB : ByteArray := ⟨#[58]⟩
def textB (t : Nat) : ByteArray := bytesB (itoa ((t / 1440 : Nat) : Int)) ++ slashB ++ twoB (t % 1440 / 60) ++ colonB ++ twoB (t % 60)
def textR (t : Int) : ByteArray × Int := if isB t = true then (textB t.toNat, 0) else (⟨#[]⟩, 1)
theorem dec1 (u : Nat) (hu : u < 10) : (decDigits u).length = 1 := by rw [decDigits, dif_pos hu]; rfl
theorem twoB_size (n : Nat) (hn : n < 100) : (twoB n).size = 2 := by
  unfold twoB bytesB
  rw [ByteArray.size_append]
  show (decDigits (n / 10)).toArray.size + (decDigits (n % 10)).toArray.size = 2
  simp [dec1 _ (show n / 10 < 10 by omega), dec1 _ (show n % 10 < 10 by omega)]
set_option maxHeartbeats 1000000 in
theorem text_calls (w : World) (hl : LaidC w) (t : Int) : Calls Tryd.prog 18 #[.int .i64 t] w fun e w' => e = .returned (.tuple #[.string (textR t).1, .int .i64 (textR t).2]) ∧ Below w.heap.size w w' := by
  by_cases ht : isB t = true
  · have hb := ht
    simp only [isB, Bool.and_eq_true, decide_eq_true_eq] at hb
    obtain ⟨n, rfl⟩ := Int.eq_ofNat_of_zero_le hb.1
    have hn : n ≤ 144001439 := by omega
    have HE : Hid (textR n = (bytesB (itoa ((n / 1440 : Nat) : Int)) ++ slashB ++ twoB (n % 1440 / 60) ++ colonB ++ twoB (n % 60), 0)) := by show _ = _; unfold textR; rw [if_pos ht]; rfl
    have hi0 := fun W => instant_calls W (n : Int)
    rw [ht] at hi0
    obtain ⟨d, hd⟩ : ∃ d : Nat, n / 1440 = d := ⟨_, rfl⟩
    obtain ⟨h, hh⟩ : ∃ h : Nat, n % 1440 / 60 = h := ⟨_, rfl⟩
    obtain ⟨m, hm⟩ : ∃ m : Nat, n % 60 = m := ⟨_, rfl⟩
    obtain ⟨x, hx⟩ : ∃ x : Nat, n % 1440 = x := ⟨_, rfl⟩
    have e1 : (n : Int).tdiv 1440 = (d : Int) := by rw [Int.tdiv_eq_ediv_of_nonneg (by omega)]; omega
    have e2 : (n : Int).tmod 1440 = (x : Int) := by rw [Int.tmod_eq_emod_of_nonneg (by omega)]; omega
    have e3 : (x : Int).tdiv 60 = (h : Int) := by rw [Int.tdiv_eq_ediv_of_nonneg (by omega)]; omega
    have e4 : (n : Int).tmod 60 = (m : Int) := by rw [Int.tmod_eq_emod_of_nonneg (by omega)]; omega
    have hdl : d ≤ 200000 := by omega
    have hhl : h < 100 := by omega
    have hml : m < 100 := by omega
    have hxl : x ≤ 1440 := by omega
    rw [hd, hh, hm] at HE
    have s1 : (bytesB (itoa (d : Int))).size ≤ 21 := by
      have := itoa_length_le (d : Int) (by omega) (by omega)
      show (itoa (d : Int)).toArray.size ≤ 21
      simpa using this
    have s2 := twoB_size h hhl
    have s3 := twoB_size m hml
    have s4 : slashB.size = 1 := rfl
    have s5 : colonB.size = 1 := rfl
    have h1 := Tryd.strconv_Itoa (d : Int) (by omega) (by omega) w hl.tab
    change Calls Tryd.prog 30 #[.int .i64 d] w fun e w' => e = .returned (.string (bytesB (itoa (d : Int)))) ∧ ∃ k os, w' = Go.Sort.grow (w.drewN k) os at h1
    have h2 := fun W => two_calls W h hhl
    have h3 := fun W => two_calls W m hml
    clear hd hh hm hx hb ht
    generalize bytesB (itoa (d : Int)) = bd at *
    generalize twoB h = bh at *
    generalize twoB m = bm at *
    have HS : Hid (({ data := #[47] } : ByteArray) = slashB ∧ ({ data := #[58] } : ByteArray) = colonB) := by show _ ∧ _; exact ⟨rfl, rfl⟩
    go_enter Tryd.func18, Tryd.ntmps18
    go_wp2_with (first
      | (go_at_call 26; refine (hi0 _).mono ?_; rintro e w1 ⟨rfl, rfl⟩)
      | (go_at_call 30; refine h1.mono ?_; clear h1; rintro e w2 ⟨rfl, k, os, rfl⟩)
      | (go_at_call 31; refine (h2 _).mono ?_; clear h2; rintro e w3 ⟨rfl, rfl⟩)
      | (go_at_call 31; refine (h3 _).mono ?_; clear h3; rintro e w3 ⟨rfl, rfl⟩))
    go_ret2
    rw [HE.out]
    exact ⟨rfl, below_grow _ _ (Nat.le_refl _) _ _⟩
  · have ht' : isB t = false := by simpa using ht
    have HE : Hid (textR t = (⟨#[]⟩, 1)) := by show _ = _; unfold textR; rw [if_neg ht]
    have hi0 := fun W => instant_calls W t
    rw [ht'] at hi0
    clear ht ht'
    go_enter Tryd.func18, Tryd.ntmps18
    go_wp2_with (go_at_call 26; refine (hi0 _).mono ?_; rintro e w1 ⟨rfl, rfl⟩)
    go_ret2
    rw [HE.out]
    exact ⟨rfl, Below.refl _ _⟩
end Go.Proofs.YtgjombfcldihhaaDoor
