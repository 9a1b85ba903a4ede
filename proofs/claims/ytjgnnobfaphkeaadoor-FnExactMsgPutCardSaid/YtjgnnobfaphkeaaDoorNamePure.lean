/- Which texts are names, as a plain function. -/
import Derived.Test.YtjgnnobfaphkeaaDoorFramePure
namespace Go.Proofs.YtjgnnobfaphkeaaDoor
set_option linter.unusedVariables false

def letter (b : Nat) : Bool := (decide (97 ≤ b) && decide (b ≤ 122)) || (decide (65 ≤ b) && decide (b ≤ 90))
def words : List (List UInt8) := [[77,65,84,67,72],[79,80,84,73,79,78,65,76],[87,72,69,82,69],[85,78,87,73,78,68],[87,73,84,72],[82,69,84,85,82,78],[67,82,69,65,84,69],[83,69,84],[68,69,76,69,84,69],[68,69,84,65,67,72],
  [65,83],[65,78,68],[79,82],[78,79,84],[73,83],[78,85,76,76],[73,78],[68,73,83,84,73,78,67,84],[79,82,68,69,82],[66,89],[68,69,83,67],[83,75,73,80],[76,73,77,73,84],[110,117,108,108],[116,114,117,101],[102,97,108,115,101],[99,111,117,110,116],[115,117,109],[115,105,122,101]]
def kept (t : ByteArray) : Bool := words.any fun x => t.toList == x
def nameShape (t : ByteArray) : Bool := decide (1 ≤ t.size) && decide (t.size ≤ 8) && letter (at_ t 0) && (List.range t.size).all fun i => letter (at_ t i) || fig (at_ t i)
def nameOk (t : ByteArray) : Bool := nameShape t && !kept t
theorem shape_bad {t : ByteArray} {i : Nat} (h : i < t.size) (hl : letter (at_ t i) = false) (hf : fig (at_ t i) = false ∨ i = 0) : nameShape t = false := by
  unfold nameShape
  by_cases h0 : i = 0
  · subst h0; rw [hl]; simp
  · rw [Bool.and_eq_false_iff]; right
    rw [List.all_eq_false]
    exact ⟨i, List.mem_range.2 h, by rw [hl]; rcases hf with hf | hf; rw [hf]; decide; exact absurd hf h0⟩
theorem shape_long {t : ByteArray} (h : t.size = 0 ∨ 8 < t.size) : nameShape t = false := by
  unfold nameShape
  rcases h with h | h
  · simp [h]
  · have : decide (t.size ≤ 8) = false := by simp; omega
    rw [this]; simp
theorem shape_good {t : ByteArray} (h1 : 1 ≤ t.size) (h8 : t.size ≤ 8) (h0 : letter (at_ t 0) = true) (ha : ∀ i, i < t.size → letter (at_ t i) = true ∨ fig (at_ t i) = true) : nameShape t = true := by
  unfold nameShape
  simp only [Bool.and_eq_true, decide_eq_true_eq]
  exact ⟨⟨⟨h1, h8⟩, h0⟩, List.all_eq_true.2 fun i hi => by rw [Bool.or_eq_true]; exact ha i (List.mem_range.1 hi)⟩
end Go.Proofs.YtjgnnobfaphkeaaDoor
