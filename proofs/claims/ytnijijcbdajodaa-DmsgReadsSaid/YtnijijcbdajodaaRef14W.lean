/-
  The walks of the document's wipe of layer 14. Condition: sizes that a machine has.
-/
import Derived.Test.YtnijijcbdajodaaRef14W1
import Derived.Test.YtnijijcbdajodaaRef14W2
namespace Go.Proofs.Ytnijijcbdajodaa
set_option linter.unusedVariables false
set_option linter.unusedSimpArgs false
open Go.RowKit

theorem rWipe_any (m : Msg) (a : Option Addr) (n c : Nat) (w : World) (hl : m.recs.length = n) (hn : n ≤ 9223372036854775807) : Calls Try.prog 34 #[msgV m a n c] w (WipedR m w) := by
  by_cases k1 : m.kind = 1
  · exact rWipe_one m k1 a n c w hl hn
  by_cases k2 : m.kind = 2
  · exact rWipe_2 m k2 a n c w hl hn
  by_cases k3 : m.kind = 3
  · exact rWipe_3 m k3 a n c w hl hn
  by_cases k4 : m.kind = 4
  · exact rWipe_4 m k4 a n c w hl hn
  by_cases k5 : m.kind = 5
  · exact rWipe_5 m k5 a n c w hl hn
  by_cases k6 : m.kind = 6
  · exact rWipe_6 m k6 a n c w hl hn
  by_cases k8 : m.kind = 8
  · exact rWipe_8 m k8 a n c w hl hn
  by_cases k9 : m.kind = 9
  · exact rWipe_9 m k9 a n c w hl hn
  by_cases k10 : m.kind = 10
  · exact rWipe_10 m k10 a n c w hl hn
  by_cases k11 : m.kind = 11
  · exact rWipe_11 m k11 a n c w hl hn
  exact rWipe_other m ⟨k1, k2, k3, k4, k5, k6, k8, k9, k10, k11⟩ a n c w hl hn
end Go.Proofs.Ytnijijcbdajodaa
