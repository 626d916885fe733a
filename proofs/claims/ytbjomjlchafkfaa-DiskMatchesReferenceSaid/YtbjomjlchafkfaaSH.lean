/- A disk and the reference's disk side by side.
   Conditions: none. -/
import Derived.Test.YtbjomjlchafkfaaSG
namespace Go.Proofs.Ytbjomjlchafkfaa
open Go.RowKit Go.Lib
set_option linter.unusedVariables false

structure TwoR (B : Nat) (w0 w : World) (F : Nat → Prop) (p : Nat) (s : DS) (G : Nat → Prop) (q : Nat) (t : DS) : Prop where
  a : Mine B w0 w F p s
  b : RefAt w G q t
  lo : ∀ k, G k → B ≤ k
  dis : ∀ k, F k → ¬ G k
theorem TwoR.fresh {B : Nat} {w0 w w' : World} {F : Nat → Prop} {p : Nat} {s : DS} {n : Nat} {e : Ending} (h : Mine B w0 w F p s) (f : RFresh w n e w') : ∃ q G, e = .returned (.pointer (some ⟨q, 0, none⟩)) ∧ TwoR B w0 w' F p s G q (DS.new n) := by
  obtain ⟨q, G, he, hd, hbe, hG⟩ := f
  exact ⟨q, G, he, h.below hbe, hd, fun k hk => Nat.le_trans h.sz (hG k hk), fun k hk hg => by have := h.d.lt k hk; have := hG k hg; omega⟩
theorem TwoR.below {B : Nat} {w0 w w' : World} {F G : Nat → Prop} {p q : Nat} {s t : DS} (h : TwoR B w0 w F p s G q t) (hb : Below w.heap.size w w') : TwoR B w0 w' F p s G q t := ⟨h.a.below hb, h.b.below hb, h.lo, h.dis⟩
theorem TwoR.left {B : Nat} {w0 w w' : World} {F G : Nat → Prop} {p q : Nat} {s s' t : DS} {v : Value} {e : Ending} (h : TwoR B w0 w F p s G q t) (c : Turns w F p s' v e w') :
    e = .returned v ∧ ∃ F', TwoR B w0 w' F' p s' G q t := by
  obtain ⟨he, F', hd, hu, hF⟩ := c
  have hG := h.b.lt
  refine ⟨he, F', ⟨hd, fun k hk => ?_, h.a.be.trans (hu.below h.a.lo h.a.sz), Nat.le_trans h.a.sz hu.size⟩, h.b.apart hu fun k hg hf => h.dis k hf hg, h.lo, fun k hk hg => ?_⟩
  · rcases hF k hk with h1 | h1
    · exact h.a.lo k h1
    · exact Nat.le_trans h.a.sz h1
  · rcases hF k hk with h1 | h1
    · exact h.dis k h1 hg
    · have := hG k hg; omega
theorem TwoR.right {B : Nat} {w0 w w' : World} {F G : Nat → Prop} {p q : Nat} {s t t' : DS} {v : Value} {e : Ending} (h : TwoR B w0 w F p s G q t) (c : RTurns w G q t' v e w') :
    e = .returned v ∧ ∃ G', TwoR B w0 w' F p s G' q t' := by
  obtain ⟨he, G', hd, hu, hG⟩ := c
  have hF := h.a.d.lt
  refine ⟨he, G', ⟨h.a.d.apart hu h.dis, h.a.lo, h.a.be.trans (hu.below h.lo h.a.sz), Nat.le_trans h.a.sz hu.size⟩, hd, fun k hk => ?_, fun k hk hg => ?_⟩
  · rcases hG k hk with h1 | h1
    · exact h.lo k h1
    · exact Nat.le_trans h.a.sz h1
  · rcases hG k hg with h1 | h1
    · exact h.dis k hk h1
    · have := hF k hk; omega
end Go.Proofs.Ytbjomjlchafkfaa
