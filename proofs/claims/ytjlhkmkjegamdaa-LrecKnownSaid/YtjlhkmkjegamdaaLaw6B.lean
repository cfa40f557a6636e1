/-
  The walk of coupletlaw06's works.
-/
import Derived.Test.YtjlhkmkjegamdaaLaw6F
import Derived.Deep.DeepCutAuto
import Derived.Deep.RegionHeld3
namespace Go.Proofs.Ytjlhkmkjegamdaa
set_option linter.unusedVariables false
set_option linter.unusedSimpArgs false
open Go.RowKit

theorem one_oks : ∀ r ∈ oneE.ops, r.ok := by
  intro r hr
  simp only [oneE, List.mem_cons, List.not_mem_nil, or_false] at hr
  subst hr
  exact ⟨by decide, by decide, by decide⟩

theorem seal_one (w : World) : Calls Try.prog 21 #[.string ⟨#[1, 2, 1, 1, 97, 0, 1, 98]⟩] w fun e w' => e = .returned (.string ⟨#[1, 2, 1, 1, 97, 0, 1, 98, 152, 149, 22, 241]⟩) ∧ Below w.heap.size w w' :=
  (seal_any oneText w (by decide)).mono fun e w' ⟨h1, h2⟩ => ⟨by rw [h1, show sealI oneText = [1, 2, 1, 1, 97, 0, 1, 98, 152, 149, 22, 241] from by kernel_rfl], h2⟩
theorem may_a (w : World) : Calls Try.prog 11 #[.agg #[.string ⟨#[97]⟩, .int .u64 0, .bool false, .string ⟨#[]⟩]] w fun e w' => e = .returned (.int .i64 0) ∧ Below w.heap.size w w' :=
  may_any ⟨[97], 0, false, []⟩ w ⟨by decide, by decide, by decide⟩
theorem may_b (w : World) : Calls Try.prog 11 #[.agg #[.string ⟨#[]⟩, .int .u64 0, .bool false, .string ⟨#[]⟩]] w fun e w' => e = .returned (.int .i64 2) ∧ Below w.heap.size w w' :=
  may_any ⟨[], 0, false, []⟩ w ⟨by decide, by decide, by decide⟩
theorem may_c (w : World) : Calls Try.prog 11 #[.agg #[.string ⟨#[49, 50, 51, 52, 53, 54, 55, 56, 57, 48, 49, 50, 51, 52, 53, 54, 55]⟩, .int .u64 0, .bool false, .string ⟨#[]⟩]] w fun e w' => e = .returned (.int .i64 3) ∧ Below w.heap.size w w' :=
  may_any ⟨[49, 50, 51, 52, 53, 54, 55, 56, 57, 48, 49, 50, 51, 52, 53, 54, 55], 0, false, []⟩ w ⟨by decide, by decide, by decide⟩
theorem may_d (w : World) : Calls Try.prog 11 #[.agg #[.string ⟨#[97]⟩, .int .u64 0, .bool true, .string ⟨#[98]⟩]] w fun e w' => e = .returned (.int .i64 2) ∧ Below w.heap.size w w' :=
  may_any ⟨[97], 0, true, [98]⟩ w ⟨by decide, by decide, by decide⟩
theorem same_one (a b : Option Addr) (n c m d : Nat) (w : World) (ha : RecsAt w a n c oneE.ops) (hb : RecsAt w b m d oneE.ops) :
    Calls Try.prog 19 #[.agg #[.int .u64 1, .int .u64 2, .slice a n c], .agg #[.int .u64 1, .int .u64 2, .slice b m d]] w fun e w' => e = .returned (.bool true) ∧ Below w.heap.size w w' :=
  (same_any oneE oneE a b n c m d w ha hb).mono fun e w' ⟨h1, h2⟩ => ⟨by rw [h1]; simp, h2⟩
theorem keepOne (b : Nat) (v0 v1 v2 : Value) (w0 w : World) (h0 : w.cell? ⟨b, 0, none⟩ = some v0) (h1 : w.cell? ⟨b, 1, none⟩ = some v1) (h2 : w.cell? ⟨b, 2, none⟩ = some v2) (hb : Below w0.heap.size w0 w) (hlt : b < w0.heap.size) :
    Calls Try.prog 20 #[] w fun e w' => ∃ a n c, e = .returned (.agg #[.int .u64 1, .int .u64 2, .slice a n c]) ∧ RecsAt w' a n c oneE.ops ∧ w'.cell? ⟨b, 0, none⟩ = some v0 ∧ w'.cell? ⟨b, 1, none⟩ = some v1 ∧ w'.cell? ⟨b, 2, none⟩ = some v2 ∧ Below w0.heap.size w0 w' :=
  (one_any w).mono fun e w' ⟨hw, a, n, c, he, hr⟩ => by
    have hl : b < w.heap.size := Nat.lt_of_lt_of_le hlt hb.size
    exact ⟨a, n, c, he, hr, (hw.cell (p := ⟨b, 0, none⟩) hl).trans h0, (hw.cell (p := ⟨b, 1, none⟩) hl).trans h1, (hw.cell (p := ⟨b, 2, none⟩) hl).trans h2, hb.on hw⟩
set_option maxRecDepth 100000 in
set_option maxHeartbeats 4000000 in
theorem works_any (w : World) : Calls Try.prog 15 #[] w fun e w' => e = .returned (.bool true) ∧ Below w.heap.size w w' := by
  go_enter Try.func15, Try.ntmps15
  go_wp2_with fail
  refine (one_any w).mono ?_
  rintro e w1 ⟨hb1, a, n, c, rfl, hr1⟩
  go_wp2_with fail
  refine (encode_any oneE.ts oneE.first a n c oneE.ops w1 hr1 one_oks (by decide) (by decide)).mono ?_
  rintro e w2 ⟨rfl, hb2⟩
  rw [show encRes oneE.ts oneE.first oneE.ops = [12, 1, 2, 1, 1, 97, 0, 1, 98, 152, 149, 22, 241] from one_bytes.trans (show oneB = [12, 1, 2, 1, 1, 97, 0, 1, 98, 152, 149, 22, 241] from by kernel_rfl), show checkRes oneE.ts oneE.first oneE.ops = 0 from one_check]
  have hbb2 := hb1.on hb2
  clear hb1 hb2 hr1
  have hl := one_len
  go_upto_region 2 with fail
  go_wp2_with fail
  refine (decode_any [12, 1, 2, 1, 1, 97, 0, 1, 98, 152, 149, 22, 241, 120, 121, 122] w2 (by decide)).mono ?_
  rw [show readAll [12, 1, 2, 1, 1, 97, 0, 1, 98, 152, 149, 22, 241, 120, 121, 122] = some (oneE, 13) from by kernel_rfl]
  rintro e w3 ⟨hb3, a', n', c', rfl, hr3⟩
  have hbb3 := hbb2.on hb3
  clear hb3 hbb2
  unfold entryV
  go_upto_region 3 with fail
  have hE : Blk (w3.alloc (.cells #[.int .u64 oneE.ts, .int .u64 oneE.first, .slice a' n' c'] 27)) w3.heap.size (entryCells oneE.ts oneE.first a' n' c') 27 := Blk.new _ _ _
  have hb4 := (Below.refl w3.heap.size w3).alloc (Nat.le_refl _) (.cells #[.int .u64 oneE.ts, .int .u64 oneE.first, .slice a' n' c'] 27)
  have hr4 := hr3.on hb4
  have hbb4 := hbb3.on hb4
  clear hb4 hr3 hbb3
  generalize w3.alloc (.cells #[.int .u64 oneE.ts, .int .u64 oneE.first, .slice a' n' c'] 27) = w4 at *
  have hlt := hE.lt
  generalize w3.heap.size = P at *
  have hE4 : Blk w4 P [.int .u64 1, .int .u64 2, .slice a' n' c'] 27 := hE
  clear hE
  go_wp2_with fail
  refine (decode_any [12, 1, 2, 1, 1, 97, 0, 1, 98, 152, 149, 22] w4 (by decide)).mono ?_
  rw [show readAll [12, 1, 2, 1, 1, 97, 0, 1, 98, 152, 149, 22] = none from by kernel_rfl]
  rintro e w5 ⟨hb5, rfl⟩
  have hE5 := hE4.on hb5
  have hr5 := hr4.on hb5
  have hbb5 := hbb4.on hb5
  clear hE4 hr4 hbb4 hb5 hlt
  unfold entryV
  go_upto_region 4 with fail
  have hE6 := hE5.alloc (.cells #[.int .u64 0, .int .u64 0, .slice none 0 0] 27)
  have hb6 := (Below.refl w5.heap.size w5).alloc (Nat.le_refl _) (.cells #[.int .u64 0, .int .u64 0, .slice none 0 0] 27)
  have hr6 := hr5.on hb6
  have hbb6 := hbb5.on hb6
  clear hb6 hr5 hbb5 hE5
  generalize w5.alloc (.cells #[.int .u64 0, .int .u64 0, .slice none 0 0] 27) = w6 at *
  generalize w5.heap.size = P2 at *
  have e0 : w6.cell? ⟨P, 0, none⟩ = some (.int .u64 1) := by rw [hE6.cell]; rfl
  have e1 : w6.cell? ⟨P, 1, none⟩ = some (.int .u64 2) := by rw [hE6.cell]; rfl
  have e2 : w6.cell? ⟨P, 2, none⟩ = some (.slice a' n' c') := by rw [hE6.cell]; rfl
  have hlt := hE6.lt
  have hrefl := Below.refl w6.heap.size w6
  have hdrew : Below w6.heap.size w6 w6.drew := below_drew hrefl
  clear hE6
  have hadd : (⟨#[12]⟩ : ByteArray) ++ ⟨#[1, 2, 1, 1, 97, 0, 1, 98, 152, 149, 22, 241]⟩ = ⟨#[12, 1, 2, 1, 1, 97, 0, 1, 98, 152, 149, 22, 241]⟩ := by kernel_rfl
  have heq : (ByteArray.toList ⟨#[12, 1, 2, 1, 1, 97, 0, 1, 98, 152, 149, 22, 241]⟩ == ByteArray.toList ⟨#[12, 1, 2, 1, 1, 97, 0, 1, 98, 152, 149, 22, 241]⟩) = true := by kernel_rfl
  go_region_held3 (fun w' => w'.cell? ⟨P, 0, none⟩ = some (.int .u64 1) ∧ w'.cell? ⟨P, 1, none⟩ = some (.int .u64 2) ∧ w'.cell? ⟨P, 2, none⟩ = some (.slice a' n' c') ∧ Below w6.heap.size w6 w') (go_keep)
    (first
      | (go_at_call 21; (with_reducible refine (keep3 (seal_one _) P (.int .u64 1) (.int .u64 2) (.slice a' n' c') w6 ?_ ?_ ?_ ?_ hlt).mono ?_); assumption; assumption; assumption; assumption; rintro e w' ⟨rfl, k0, k1, k2, k3⟩)
      | (go_at_call 20; (with_reducible refine (keepOne P (.int .u64 1) (.int .u64 2) (.slice a' n' c') w6 _ ?_ ?_ ?_ ?_ hlt).mono ?_); assumption; assumption; assumption; assumption; rintro e w' ⟨a2, n2, c2, rfl, hr2, k0, k1, k2, k3⟩)
      | (go_at_call 19; (with_reducible refine (keep3 (same_one _ _ _ _ _ _ _ (hr6.on ?_) ?_) P (.int .u64 1) (.int .u64 2) (.slice a' n' c') w6 ?_ ?_ ?_ ?_ hlt).mono ?_); assumption; assumption; assumption; assumption; assumption; assumption; rintro e w' ⟨rfl, k0, k1, k2, k3⟩)
      | (go_at_call 11; (with_reducible refine (keep3 (may_a _) P (.int .u64 1) (.int .u64 2) (.slice a' n' c') w6 ?_ ?_ ?_ ?_ hlt).mono ?_); assumption; assumption; assumption; assumption; rintro e w' ⟨rfl, k0, k1, k2, k3⟩)
      | (go_at_call 11; (with_reducible refine (keep3 (may_b _) P (.int .u64 1) (.int .u64 2) (.slice a' n' c') w6 ?_ ?_ ?_ ?_ hlt).mono ?_); assumption; assumption; assumption; assumption; rintro e w' ⟨rfl, k0, k1, k2, k3⟩)
      | (go_at_call 11; (with_reducible refine (keep3 (may_c _) P (.int .u64 1) (.int .u64 2) (.slice a' n' c') w6 ?_ ?_ ?_ ?_ hlt).mono ?_); assumption; assumption; assumption; assumption; rintro e w' ⟨rfl, k0, k1, k2, k3⟩)
      | (go_at_call 11; (with_reducible refine (keep3 (may_d _) P (.int .u64 1) (.int .u64 2) (.slice a' n' c') w6 ?_ ?_ ?_ ?_ hlt).mono ?_); assumption; assumption; assumption; assumption; rintro e w' ⟨rfl, k0, k1, k2, k3⟩))
  all_goals
    go_wp2_with fail
    refine bodyPost_ret (results_tmp rfl _ _ _) rfl ⟨rfl, hbb6.on ?_⟩
    assumption
end Go.Proofs.Ytjlhkmkjegamdaa
