/-  the references of layers 14 and 19: a key's value among pairs; whether pairs are the same.  -/
import Derived.Test.YtidkkkdlaclolaaGreatRefK
section
namespace Go.Proofs.YtidkkkdlaclolaaGreat
open Go Go.RowKit X
set_option linter.unusedSimpArgs false
set_option linter.unusedVariables false
set_option linter.unusedSectionVars false
theorem look_drop_none {k : Key} {l : Kv} {i : Nat} (h : ∀ p ∈ l.take i, p.1 ≠ k) : look l k = look (l.drop i) k := by
  induction l generalizing i with
  | nil => simp
  | cons p r ih =>
    cases i with
    | zero => simp
    | succ i =>
      rw [List.take_succ_cons] at h
      rw [List.drop_succ_cons]
      show (if p.1 = k then some p.2 else look r k) = _
      rw [if_neg (h p (by simp))]
      exact ih fun q hq => h q (List.mem_cons_of_mem _ hq)
variable [Floor]
section
variable {w : World} {v vb vk : Value} {l m : Kv} {k : Key}
end
end Go.Proofs.YtidkkkdlaclolaaGreat
end
section
namespace Go.Proofs.YtidkkkdlaclolaaGreat
open Go Go.RowKit X
set_option linter.unusedSimpArgs false
set_option linter.unusedVariables false
set_option linter.unusedSectionVars false
variable [Floor]
end Go.Proofs.YtidkkkdlaclolaaGreat
end
