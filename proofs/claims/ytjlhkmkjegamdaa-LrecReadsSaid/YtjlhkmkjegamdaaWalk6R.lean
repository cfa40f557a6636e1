/-
  The walk of LrecReads.
-/
import Derived.Test.YtjlhkmkjegamdaaRef6D
import Derived.Test.YtjlhkmkjegamdaaWalk6C
namespace Go.Proofs.Ytjlhkmkjegamdaa
set_option linter.unusedVariables false
set_option linter.unusedSimpArgs false
open Go.RowKit

def decE (o : Option (Entry × Nat)) : Entry := match o with | none => ⟨0, 0, []⟩ | some p => p.1
def decT (o : Option (Entry × Nat)) : Nat := match o with | none => 0 | some p => p.2
def decC (o : Option (Entry × Nat)) : Nat := match o with | none => 4 | some p => 0
theorem DecodeEnds.flat {w : World} {o : Option (Entry × Nat)} {e : Ending} {w' : World} (h : DecodeEnds w o e w') :
    ∃ a n c, e = .returned (.tuple #[.agg #[.int .u64 (decE o).ts, .int .u64 (decE o).first, .slice a n c], .int .i64 (decT o), .int .i64 (decC o)]) ∧ RecsAt w' a n c (decE o).ops ∧ Below w.heap.size w w' := by
  obtain ⟨hb, hm⟩ := h
  cases o with
  | none => exact ⟨none, 0, 0, hm, ⟨rfl, Nat.le_refl _, by omega, fun h0 => absurd h0 (Nat.lt_irrefl 0)⟩, hb⟩
  | some p =>
    obtain ⟨a, n, c, he, hr⟩ := hm
    exact ⟨a, n, c, he, hr, hb⟩

set_option maxRecDepth 100000 in
set_option maxHeartbeats 2000000 in
theorem reads_any (l : List UInt8) (w : World) (hl : l.length ≤ 9223372036854775807) :
    Calls Try.prog 4 #[.string ⟨l.toArray⟩] w fun e w' => e = .returned (.bool true) ∧ Below w.heap.size w w' := by
  generalize hq : min l.length 2000 = q
  have hq1 : q ≤ l.length := by omega
  have hq2 : q ≤ 2000 := by omega
  have hminq : ∀ w', (Builtin.min_ #[3, 3] 3 #[.int .i64 l.length, .int .i64 2000]).run Try.prog w' = .ok (.int .i64 q) w' := by
    intro w'
    rw [run_min_int2, show (if (2000 : Int) < l.length then (2000 : Int) else l.length) = q from by split <;> omega]
  have hx : (⟨l.toArray⟩ : ByteArray).extract 0 q = ⟨(l.take q).toArray⟩ := by rw [extract_list, List.drop_zero, Nat.sub_zero]
  have hbl : (l.take q).length = q := by rw [List.length_take]; omega
  have HX := Lib.hid hx
  have HBL := Lib.hid hbl
  clear hq hx hbl
  go_enter Try.func4, Try.ntmps4
  go_wp2_with fail
  rw [HX.out]
  refine (decode_any _ w (by rw [HBL.out]; omega)).mono ?_
  intro e w1 hm1
  obtain ⟨a, n, c, rfl, hr1, hb1⟩ := hm1.flat
  clear hm1
  obtain ⟨⟨xt, xf, xs⟩, hx⟩ : ∃ x, decE (readAll (l.take q)) = x := ⟨_, rfl⟩
  obtain ⟨T, hT⟩ : ∃ x, decT (readAll (l.take q)) = x := ⟨_, rfl⟩
  obtain ⟨C, hC⟩ : ∃ x, decC (readAll (l.take q)) = x := ⟨_, rfl⟩
  have HE := Lib.hid hx
  have HT := Lib.hid hT
  have HC := Lib.hid hC
  rw [hT, hC, hx]
  rw [hx] at hr1
  simp only at hr1 ⊢
  clear hx hT hC
  go_upto_region 3 with fail
  have hP : Blk (w1.alloc (.cells #[.int .u64 xt, .int .u64 xf, .slice a n c] 27)) w1.heap.size (entryCells xt xf a n c) 27 := Blk.new _ _ _
  have hb2 := (Below.refl w1.heap.size w1).alloc (Nat.le_refl _) (.cells #[.int .u64 xt, .int .u64 xf, .slice a n c] 27)
  have hr2 := hr1.on hb2
  have hbb2 := hb1.on hb2
  generalize w1.alloc (.cells #[.int .u64 xt, .int .u64 xf, .slice a n c] 27) = w2 at *
  clear hr1 hb1 hb2
  generalize w1.heap.size = P at *
  go_wp2_with fail
  refine (rDecode_any _ w2 (by rw [HBL.out]; omega)).mono ?_
  intro e w3 hm3
  obtain ⟨a2, n2, c2, rfl, hr3, hb3⟩ := hm3.flat
  clear hm3
  rw [HT.out, HC.out, HE.out]
  rw [HE.out] at hr3
  simp only at hr3 ⊢
  have hP3 := hP.on hb3
  have hr4 := hr2.on hb3
  have hbb3 := hbb2.on hb3
  clear hP hr2 hbb2 hb3
  go_upto_region 4 with fail
  have hF : Blk (w3.alloc (.cells #[.int .u64 xt, .int .u64 xf, .slice a2 n2 c2] 27)) w3.heap.size (entryCells xt xf a2 n2 c2) 27 := Blk.new _ _ _
  have hb5 := (Below.refl w3.heap.size w3).alloc (Nat.le_refl _) (.cells #[.int .u64 xt, .int .u64 xf, .slice a2 n2 c2] 27)
  have hP5 := hP3.on hb5
  have hr5 := hr4.on hb5
  have hr6 := hr3.on hb5
  have hbb5 := hbb3.on hb5
  generalize w3.alloc (.cells #[.int .u64 xt, .int .u64 xf, .slice a2 n2 c2] 27) = w5 at *
  clear hP3 hr4 hr3 hbb3 hb5
  generalize w3.heap.size = F at *
  obtain ⟨p0, p1, p2⟩ := entry_load hP5
  obtain ⟨f0, f1, f2⟩ := entry_load hF
  go_wp2_with fail
  refine (show Calls Try.prog 18 #[.agg #[.int .u64 xt, .int .u64 xf, .slice a n c], .agg #[.int .u64 xt, .int .u64 xf, .slice a2 n2 c2]] w5 fun e w' => e = .returned (.bool true) ∧ Below w5.heap.size w5 w' from
    (rSame_any ⟨xt, xf, xs⟩ ⟨xt, xf, xs⟩ a a2 n c n2 c2 w5 hr5 hr6).mono fun e w' h => ⟨by rw [h.1]; simp, h.2⟩).mono ?_
  rintro e w6 ⟨rfl, hb6⟩
  go_wp2_with fail
  refine (works_any w6).mono ?_
  rintro e w7 ⟨rfl, hb7⟩
  go_wp2_with fail
  refine bodyPost_ret (results_tmp rfl _ _ _) rfl ⟨rfl, ?_⟩
  exact (hbb5.on hb6).on hb7
theorem reads_walk (a0 : ByteArray) (w0 : a0.size ≤ maxLen) (w : World) :
    Calls Try.prog 4 #[.string a0] w fun e w' => e = .returned (.bool true) ∧ Below w.heap.size w w' := by
  obtain ⟨⟨l⟩⟩ := a0
  exact reads_any l w (by unfold maxLen at w0; simpa [ByteArray.size] using w0)
end Go.Proofs.Ytjlhkmkjegamdaa
