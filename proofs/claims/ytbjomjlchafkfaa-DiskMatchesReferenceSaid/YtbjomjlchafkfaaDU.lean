/- Two disks side by side: what one call does to the one leaves the other as it was.
   Conditions: none. -/
import Derived.Test.YtbjomjlchafkfaaDP
namespace Go.Proofs.Ytbjomjlchafkfaa
open Go.RowKit Go.Lib
set_option linter.unusedVariables false

def Or2 (F G : Nat → Prop) (k : Nat) : Prop := F k ∨ G k
structure Two (B : Nat) (w0 w : World) (F : Nat → Prop) (p : Nat) (s : DS) (G : Nat → Prop) (q : Nat) (t : DS) : Prop where
  a : Mine B w0 w F p s
  b : Mine B w0 w G q t
  dis : ∀ k, F k → ¬ G k
theorem Two.fresh {B : Nat} {w0 w w' : World} {F : Nat → Prop} {p : Nat} {s : DS} {n : Nat} {e : Ending} (h : Mine B w0 w F p s) (f : Fresh w n e w') : ∃ q G, e = .returned (.pointer (some ⟨q, 0, none⟩)) ∧ Two B w0 w' F p s G q (DS.new n) := by
  obtain ⟨q, G, he, hd, hbe, hG⟩ := f
  exact ⟨q, G, he, h.below hbe, ⟨hd, fun k hk => Nat.le_trans h.sz (hG k hk), h.be.trans (hbe.mono h.sz), Nat.le_trans h.sz hbe.size⟩, fun k hk hg => by have := h.d.lt k hk; have := hG k hg; omega⟩
theorem Two.symm {B : Nat} {w0 w : World} {F G : Nat → Prop} {p q : Nat} {s t : DS} (h : Two B w0 w F p s G q t) : Two B w0 w G q t F p s := ⟨h.b, h.a, fun k hg hf => h.dis k hf hg⟩
theorem Two.below {B : Nat} {w0 w w' : World} {F G : Nat → Prop} {p q : Nat} {s t : DS} (h : Two B w0 w F p s G q t) (hb : Below w.heap.size w w') : Two B w0 w' F p s G q t := ⟨h.a.below hb, h.b.below hb, h.dis⟩
theorem Two.left {B : Nat} {w0 w w' : World} {F G : Nat → Prop} {p q : Nat} {s s' t : DS} {v : Value} {e : Ending} (h : Two B w0 w F p s G q t) (c : Turns w F p s' v e w') :
    e = .returned v ∧ ∃ F', Two B w0 w' F' p s' G q t ∧ Keep (Or2 F G) (Or2 F' G) w w' := by
  obtain ⟨he, F', hd, hu, hF⟩ := c
  have hG := h.b.d.lt
  have hbe := h.a.be.trans (hu.below h.a.lo h.a.sz)
  have hsz := Nat.le_trans h.a.sz hu.size
  have hlo : ∀ k, F' k → B ≤ k := fun k hk => by
    rcases hF k hk with h1 | h1
    · exact h.a.lo k h1
    · exact Nat.le_trans h.a.sz h1
  have hdis : ∀ k, F' k → ¬ G k := fun k hk hg => by
    rcases hF k hk with h1 | h1
    · exact h.dis k h1 hg
    · have := hG k hg; omega
  refine ⟨he, F', ⟨⟨hd, hlo, hbe, hsz⟩, ⟨h.b.d.apart hu fun k hg hf => h.dis k hf hg, h.b.lo, hbe, hsz⟩, hdis⟩, ⟨fun g hg hn => ⟨hu.block g hg fun hf => hn (.inl hf), fun ho => ?_⟩, hu.size⟩⟩
  rcases ho with h1 | h1
  · rcases hF g h1 with h2 | h2
    · exact hn (.inl h2)
    · omega
  · exact hn (.inr h1)
theorem Or2.comm (F G : Nat → Prop) : Or2 F G = Or2 G F := by funext k; exact propext ⟨fun h => h.symm, fun h => h.symm⟩
theorem Two.right {B : Nat} {w0 w w' : World} {F G : Nat → Prop} {p q : Nat} {s t t' : DS} {v : Value} {e : Ending} (h : Two B w0 w F p s G q t) (c : Turns w G q t' v e w') :
    e = .returned v ∧ ∃ G', Two B w0 w' F p s G' q t' ∧ Keep (Or2 F G) (Or2 F G') w w' := by
  obtain ⟨he, G', h1, h2⟩ := h.symm.left c
  exact ⟨he, G', h1.symm, by rw [Or2.comm F G, Or2.comm F G']; exact h2⟩
theorem Two.contsL {B : Nat} {w0 w w' : World} {F G : Nat → Prop} {p q : Nat} {s t : DS} {xs : List ByteArray} {e : Ending} (h : Two B w0 w F p s G q t) (c : Conts w xs e w') :
    ∃ v, e = .returned (.tuple #[v, .bool true]) ∧ StrsOut w' (Or2 F G) v xs ∧ Two B w0 w' F p s G q t ∧ Keep (Or2 F G) (Or2 F G) w w' := by
  obtain ⟨v, he, hown, hb⟩ := c
  exact ⟨v, he, StrsOut.of hown fun k hk => by rcases hk with hk | hk; exact h.a.d.lt k hk; exact h.b.d.lt k hk, h.below hb, Keep.below hb⟩
end Go.Proofs.Ytbjomjlchafkfaa
