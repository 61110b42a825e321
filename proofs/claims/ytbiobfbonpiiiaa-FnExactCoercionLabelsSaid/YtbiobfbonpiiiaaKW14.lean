/- Texts of the proof, one behind another. -/
import Derived.Test.YtbiobfbonpiiiaaKW9
import Derived.Test.YtbiobfbonpiiiaaKW10
import Derived.Test.YtbiobfbonpiiiaaKW13
set_option linter.unusedSimpArgs false
set_option linter.unusedVariables false
/- Composition of coercions as they come, in the program and in the reference. On shadows. -/
namespace Go.Proofs.Grad
open Classical in
/-- the form of a valid coercion -/
noncomputable def Co.k? (c : Co) : Option K := if h : c.valid = true then some (Classical.choose ((Co.valid_iff c).1 h)) else none
theorem Co.k?_some {c : Co} {k : K} (h : c.k? = some k) : c = k.co ∧ k.ok = true := by
  unfold Co.k? at h
  split at h
  · rename_i hv
    have hs := Classical.choose_spec ((Co.valid_iff c).1 hv)
    rw [Option.some.inj h] at hs
    exact ⟨hs.1.symm, by simp [K.ok, hs.2.1, hs.2.2]⟩
  · cases h
theorem Co.k?_none {c : Co} (h : c.k? = none) : c.valid = false := by
  unfold Co.k? at h
  split at h
  · cases h
  · rename_i hv; simpa using hv
end Go.Proofs.Grad
namespace Go.Proofs.Ytbiobfbonpiiiaa
open Go.RowKit Go.Proofs.Sh Go.Proofs.Grad
set_option maxRecDepth 100000
set_option maxHeartbeats 4000000
end Go.Proofs.Ytbiobfbonpiiiaa
/- The plain laws of subtyping. -/
namespace Go.Proofs.Grad

end Go.Proofs.Grad
/- Typing of coercions; identities; heights. No program, no world. -/
namespace Go.Proofs.Grad
end Go.Proofs.Grad
/- Identity coercions, in the program and in the reference. On shadows. -/
namespace Go.Proofs.Grad
end Go.Proofs.Grad
namespace Go.Proofs.Ytbiobfbonpiiiaa
open Go.RowKit Go.Proofs.Sh Go.Proofs.Grad
set_option maxRecDepth 100000
set_option maxHeartbeats 8000000
end Go.Proofs.Ytbiobfbonpiiiaa
/- The labels of coercions. No program, no world. -/
namespace Go.Proofs.Grad
theorem K.labels_len (k : K) : k.labels.length ≤ k.size := by
  induction k <;> simp only [K.labels, K.size, List.length_nil, List.length_cons, List.length_append] <;> omega
end Go.Proofs.Grad
