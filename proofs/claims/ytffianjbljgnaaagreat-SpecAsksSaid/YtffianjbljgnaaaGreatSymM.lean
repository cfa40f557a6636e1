/-
  symMergeCmpFunc at ints, by halves: the whole. Condition: the row's length is one that a machine has. (Printed by gen_symu.py.)
-/
import Derived.Test.YtffianjbljgnaaaGreatSymV
import Derived.Test.YtffianjbljgnaaaGreatSymL
import Derived.Test.YtffianjbljgnaaaGreatSymR
import Derived.Deep.DeepCutAuto
import Derived.Deep.CutBlock
namespace Go.Proofs.YtffianjbljgnaaaGreat
set_option linter.unusedVariables false
set_option linter.unusedSimpArgs false
open Go.RowKit
set_option maxRecDepth 100000 in
set_option maxHeartbeats 16000000 in
theorem sym_main (K : Nat) (ih : SymGoal K) (g : Nat) (d : Array Nat) (rest : List Value) (cap a m b : Nat) (P A B Q : List Nat) (CB : Nat) (key : Nat → Int) (w : World) (hd : d.toList = P ++ (A ++ (B ++ Q))) (ha : a = P.length) (hm : m = P.length + A.length) (hb : b = P.length + A.length + B.length) (hA0 : 0 < A.length) (hB0 : 0 < B.length) (hA : SortedK key A) (hB : SortedK key B)
    (hcap : d.size ≤ cap) (hsz : d.size ≤ 1000000) (hC : CmpOk g w CB key d.toList) (h : ArrI w g d rest) (hK : b - a ≤ K + 1) (hone : 2 ≤ A.length) (htwo : 2 ≤ B.length) :
    Calls Tryz.prog 74 #[.slice (some ⟨g, 0, none⟩) d.size cap, .int .i64 a, .int .i64 m, .int .i64 b, .func (.func 39) #[] #[.pointer (some ⟨CB, 0, none⟩)]] w (SymEnd g d.size key P (A ++ B) Q rest w) := by
  have hNl : d.size = P.length + (A.length + (B.length + Q.length)) := by rw [← Array.length_toList, hd]; simp
  obtain ⟨ab, habe⟩ : ∃ s, a + b = s := ⟨_, rfl⟩
  obtain ⟨mid, hmide⟩ : ∃ s, ab / 2 = s := ⟨_, rfl⟩
  have habi : (a : Int) + (b : Int) = (ab : Int) := by omega
  have hwab : IntKind.i64.wrap (ab : Int) = (ab : Int) := IntWalk.i64_in _ (by omega)
  have hwuab : IntKind.u64.wrap (ab : Int) = (ab : Int) := IntWalk.u64_in _ (by omega)
  have hshr : (ab : Int) / (2 : Int) = (mid : Int) := by omega
  have hwmid : IntKind.i64.wrap (mid : Int) = (mid : Int) := IntWalk.i64_in _ (by omega)
  have hwumid : IntKind.u64.wrap (mid : Int) = (mid : Int) := IntWalk.u64_in _ (by omega)
  have hm2 : a + b ≤ 2 * mid + 1 ∧ 2 * mid ≤ a + b := by omega
  have HTail := Lib.hid (fun (_ : True) => @sym_tail1 K ih g d rest cap a m b P A B Q CB key w w hd ha hm hb hA0 hB0 hA hB hcap hsz hC h (Mod.refl _ _) hK hone htwo mid hm2)
  obtain ⟨la, hla⟩ : ∃ k, m - a = k := ⟨_, rfl⟩
  obtain ⟨lb, hlb⟩ : ∃ k, b - m = k := ⟨_, rfl⟩
  have hlai : (m : Int) - (a : Int) = (la : Int) := by omega
  have hlbi : (b : Int) - (m : Int) = (lb : Int) := by omega
  have hwla : IntKind.i64.wrap (la : Int) = (la : Int) := IntWalk.i64_in _ (by omega)
  have hwlb : IntKind.i64.wrap (lb : Int) = (lb : Int) := IntWalk.i64_in _ (by omega)
  have honeB : ((la : Int) == 1) = false := by simp; omega
  have htwoB : ((lb : Int) == 1) = false := by simp; omega
  obtain ⟨N, hN⟩ : ∃ N, d.size = N := ⟨_, rfl⟩
  obtain ⟨AB, hAB⟩ : ∃ X, A ++ B = X := ⟨_, rfl⟩
  rw [hN, hAB] at HTail
  rw [hN, hAB]
  clear hd ha hm hb hA hB hC h ih hNl hla hlb hN hAB habe hmide
  go_enter Tryz.func74, Tryz.ntmps74
  go_upto_region 24 with fail
  go_cut [18] (fun s wx => s = .int .i64 mid ∧ w = wx)
  case first =>
    go_wp2_with fail
    go_meet
    exact ⟨rfl, rfl⟩
  obtain ⟨rfl, rfl⟩ := hcut
  first
    | (rename_i hK0; exact hK0 _ _ (HTail.out trivial))
    | (rename_i hK0 _; exact hK0 _ _ (HTail.out trivial))
    | (rename_i hK0 _ _; exact hK0 _ _ (HTail.out trivial))
    | (rename_i hK0 _ _ _; exact hK0 _ _ (HTail.out trivial))
    | (rename_i hK0 _ _ _ _; exact hK0 _ _ (HTail.out trivial))
    | (rename_i hK0 _ _ _ _ _; exact hK0 _ _ (HTail.out trivial))
theorem sym_all (K : Nat) : SymGoal K := by
  induction K with
  | zero =>
    intro g d rest cap a m b P A B Q CB key w hK hd ha hm hb hA0 hB0
    omega
  | succ K ih =>
    intro g d rest cap a m b P A B Q CB key w hK hd ha hm hb hA0 hB0 hA hB hcap hsz hC h
    by_cases h1 : m - a = 1
    · exact sym_left g d rest cap a m b P A B Q CB key w hd ha hm hb hA0 hB0 hA hB hcap hsz hC h h1
    · by_cases h2 : b - m = 1
      · exact sym_right g d rest cap a m b P A B Q CB key w hd ha hm hb hA0 hB0 hA hB hcap hsz hC h (by omega) h2
      · exact sym_main K ih g d rest cap a m b P A B Q CB key w hd ha hm hb hA0 hB0 hA hB hcap hsz hC h hK (by omega) (by omega)
end Go.Proofs.YtffianjbljgnaaaGreat
