import Derived.Test.YtfioppfnjkfibaaAbTestA
import Derived.Test.YtfioppfnjkfibaaAbOpen
set_option linter.unusedSimpArgs false
set_option linter.unusedVariables false
namespace Go.Proofs
open Go Go.Ab

def TOp.ok (o : TOp) : Prop := o.text.size ≤ reachBytes

theorem dec_TOp (r : List L) (h : F2 Has [.i .i64, .i .i64, .i .i64, .i .i64, .i .i64, .i .i64, .i .i64, .s] r) : ∃ o : TOp, r = o.cs ∧ o.ok := by
  rcases h with _ | ⟨⟨⟩, h⟩
  rcases h with _ | ⟨⟨⟩, h⟩
  rcases h with _ | ⟨⟨⟩, h⟩
  rcases h with _ | ⟨⟨⟩, h⟩
  rcases h with _ | ⟨⟨⟩, h⟩
  rcases h with _ | ⟨⟨⟩, h⟩
  rcases h with _ | ⟨⟨⟩, h⟩
  rcases h with _ | ⟨h0, h⟩
  cases h0 with
  | s ht =>
  cases h
  exact ⟨⟨⟨_, _⟩, _, ⟨_, _⟩, ⟨_, _⟩, _⟩, rfl, ht⟩

theorem dec_TOps {xs : List L} (h : F2 Has [.sl 72 [.i .i64, .i .i64, .i .i64, .i .i64, .i .i64, .i .i64, .i .i64, .s]] xs) : ∃ os : List TOp, xs = [.vs false (os.map TOp.cs)] ∧ (∀ o ∈ os, o.ok) ∧ os.length * 72 ≤ reachBytes := by
  rcases h with _ | ⟨h, h'⟩
  cases h'
  obtain ⟨os, rfl, h1, h2⟩ := dec_list (cs := TOp.cs) (ok := TOp.ok) dec_TOp h
  exact ⟨os, rfl, h1, h2⟩
end Go.Proofs
