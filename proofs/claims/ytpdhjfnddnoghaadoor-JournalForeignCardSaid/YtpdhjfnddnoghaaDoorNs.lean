/- A slice of texts as an argument.
   Conditions: none. -/
import Derived.Test.YtpdhjfnddnoghaaDoorNa
import Derived.Test.YtpdhjfnddnoghaaDoorMForeign
namespace Go.Proofs.YtpdhjfnddnoghaaDoor
open Go.RowKit Go.Lib Go.ChangeShapes Go.WideShapes Go.Deep
set_option linter.unusedVariables false
set_option maxRecDepth 100000
theorem strings_of {H : Type} {enc : TypeId × Value → H} {w : World} {base : Nat} {spare : Nat → Bool} {held : Bool} {v : Value} {d : DataW H} {p : List MemPlace} {r : Reach} {b0 : Nat} (hv : Value.okWide Tryd.prog w r b0 27 v) (h : DataW.Trod enc Tryd.prog w base spare held 27 v d p) (hsz : ∀ n ∈ d.weights Tryd.prog 27, n ≤ reachBytes) :
    ∃ l : List ByteArray, TextsArg w.heap.size w v l := by
  obtain ⟨fuel, hf⟩ := h
  obtain ⟨A', l', c', rfl⟩ := okWide_slice Tryd.underlying27 hv
  obtain ⟨xs, h1, h2, h3⟩ := texts_of (c := .slice A' l' c') hf hsz
  exact ⟨xs, h1, h2, h3⟩
end Go.Proofs.YtpdhjfnddnoghaaDoor
