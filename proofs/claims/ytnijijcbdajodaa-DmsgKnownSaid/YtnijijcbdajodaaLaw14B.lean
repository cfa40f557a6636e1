/-
  The walk of coupletlaw14's works. No condition.
-/
import Derived.Test.YtnijijcbdajodaaLaw14A
namespace Go.Proofs.Ytnijijcbdajodaa
set_option linter.unusedVariables false
set_option linter.unusedSimpArgs false
open Go.RowKit

def helloM : Msg := ⟨1, 3, 0, 0, 0, 0, [], [], false, false, [], [], 0⟩
theorem recs_none (w : World) : RecsAt w none 0 0 [] := ⟨rfl, Nat.le_refl _, by omega, fun h => absurd h (Nat.lt_irrefl 0)⟩
theorem ok_none {m : Msg} (h : m.recs = []) (h0 : -9223372036854775808 ≤ m.kind ∧ m.kind ≤ 9223372036854775807) (h1 : m.te < U64 ∧ m.di < U64 ∧ m.id < U64 ∧ m.lsn < U64 ∧ m.low < U64) (h2 : m.key.length ≤ 9223372036854775807 ∧ m.hi.length ≤ 9223372036854775807 ∧ m.val.length ≤ 9223372036854775807)
    (h3 : -9223372036854775808 ≤ m.err ∧ m.err ≤ 9223372036854775807) : m.ok := ⟨h0, h1.1, h1.2.1, h1.2.2.1, h1.2.2.2.1, h1.2.2.2.2, h2.1, h2.2.1, h2.2.2, by rw [h]; simp, h3⟩
theorem hello_check : checkM helloM = 0 := by kernel_rfl
theorem hello_bytes : encM helloM = [1, 3, 0, 0, 0, 0, 0, 0, 0, 0, 0, 0, 0, 247, 77, 124, 165] := by kernel_rfl
theorem hello_read : readM [1, 3, 0, 0, 0, 0, 0, 0, 0, 0, 0, 0, 0, 247, 77, 124, 165] = some helloM := by kernel_rfl
theorem empty_read : readM [] = none := by kernel_rfl
theorem long_read : readM [1, 3, 0, 0, 0, 0, 0, 0, 0, 0, 0, 0, 0, 247, 77, 124, 165, 0] = none := by kernel_rfl
theorem seal_hello (w : World) : Calls Try.prog 18 #[.string ⟨#[1, 3, 0, 0, 0, 0, 0, 0, 0, 0, 0, 0, 0]⟩] w fun e w' => e = .returned (.string ⟨#[1, 3, 0, 0, 0, 0, 0, 0, 0, 0, 0, 0, 0, 247, 77, 124, 165]⟩) ∧ Below w.heap.size w w' :=
  (seal_any [1, 3, 0, 0, 0, 0, 0, 0, 0, 0, 0, 0, 0] w (by decide)).mono fun e w' ⟨h1, h2⟩ => ⟨by rw [h1, show sealI [1, 3, 0, 0, 0, 0, 0, 0, 0, 0, 0, 0, 0] = [1, 3, 0, 0, 0, 0, 0, 0, 0, 0, 0, 0, 0, 247, 77, 124, 165] from by kernel_rfl], h2⟩
theorem encode_hello (w : World) : Calls Try.prog 8 #[.agg #[.int .i64 1, .int .u64 3, .int .u64 0, .int .u64 0, .int .u64 0, .int .u64 0, .string ⟨#[]⟩, .string ⟨#[]⟩, .bool false, .bool false, .string ⟨#[]⟩, .slice none 0 0, .int .i64 0]] w fun e w' => e = .returned (.tuple #[.string ⟨#[1, 3, 0, 0, 0, 0, 0, 0, 0, 0, 0, 0, 0, 247, 77, 124, 165]⟩, .int .i64 0]) ∧ Below w.heap.size w w' :=
  (encode_any helloM none 0 0 w (recs_none w) (ok_none rfl (by decide) (by decide) (by decide) (by decide))).mono fun e w' ⟨h1, h2⟩ => ⟨by rw [h1, hello_bytes, hello_check]; rfl, h2⟩
theorem check_a (w : World) : Calls Try.prog 10 #[.agg #[.int .i64 1, .int .u64 3, .int .u64 1, .int .u64 0, .int .u64 0, .int .u64 0, .string ⟨#[]⟩, .string ⟨#[]⟩, .bool false, .bool false, .string ⟨#[]⟩, .slice none 0 0, .int .i64 0]] w fun e w' => e = .returned (.int .i64 2) ∧ Below w.heap.size w w' :=
  (check_any ⟨1, 3, 1, 0, 0, 0, [], [], false, false, [], [], 0⟩ none 0 0 w (recs_none w) (ok_none rfl (by decide) (by decide) (by decide) (by decide))).mono fun e w' ⟨h1, h2⟩ => ⟨by rw [h1, show checkM ⟨1, 3, 1, 0, 0, 0, [], [], false, false, [], [], 0⟩ = 2 from by kernel_rfl]; rfl, h2⟩
theorem check_b (w : World) : Calls Try.prog 10 #[.agg #[.int .i64 2, .int .u64 1, .int .u64 1, .int .u64 0, .int .u64 1, .int .u64 0, .string ⟨#[]⟩, .string ⟨#[]⟩, .bool false, .bool false, .string ⟨#[]⟩, .slice none 0 0, .int .i64 0]] w fun e w' => e = .returned (.int .i64 2) ∧ Below w.heap.size w w' :=
  (check_any ⟨2, 1, 1, 0, 1, 0, [], [], false, false, [], [], 0⟩ none 0 0 w (recs_none w) (ok_none rfl (by decide) (by decide) (by decide) (by decide))).mono fun e w' ⟨h1, h2⟩ => ⟨by rw [h1, show checkM ⟨2, 1, 1, 0, 1, 0, [], [], false, false, [], [], 0⟩ = 2 from by kernel_rfl]; rfl, h2⟩
theorem check_c (w : World) : Calls Try.prog 10 #[.agg #[.int .i64 3, .int .u64 1, .int .u64 1, .int .u64 0, .int .u64 2, .int .u64 3, .string ⟨#[]⟩, .string ⟨#[]⟩, .bool false, .bool false, .string ⟨#[]⟩, .slice none 0 0, .int .i64 0]] w fun e w' => e = .returned (.int .i64 2) ∧ Below w.heap.size w w' :=
  (check_any ⟨3, 1, 1, 0, 2, 3, [], [], false, false, [], [], 0⟩ none 0 0 w (recs_none w) (ok_none rfl (by decide) (by decide) (by decide) (by decide))).mono fun e w' ⟨h1, h2⟩ => ⟨by rw [h1, show checkM ⟨3, 1, 1, 0, 2, 3, [], [], false, false, [], [], 0⟩ = 2 from by kernel_rfl]; rfl, h2⟩
theorem check_d (w : World) : Calls Try.prog 10 #[.agg #[.int .i64 12, .int .u64 1, .int .u64 1, .int .u64 0, .int .u64 0, .int .u64 0, .string ⟨#[]⟩, .string ⟨#[]⟩, .bool false, .bool false, .string ⟨#[]⟩, .slice none 0 0, .int .i64 0]] w fun e w' => e = .returned (.int .i64 2) ∧ Below w.heap.size w w' :=
  (check_any ⟨12, 1, 1, 0, 0, 0, [], [], false, false, [], [], 0⟩ none 0 0 w (recs_none w) (ok_none rfl (by decide) (by decide) (by decide) (by decide))).mono fun e w' ⟨h1, h2⟩ => ⟨by rw [h1, show checkM ⟨12, 1, 1, 0, 0, 0, [], [], false, false, [], [], 0⟩ = 2 from by kernel_rfl]; rfl, h2⟩
theorem check_e (w : World) : Calls Try.prog 10 #[.agg #[.int .i64 4, .int .u64 1, .int .u64 1, .int .u64 1, .int .u64 0, .int .u64 0, .string ⟨#[49, 50, 51, 52, 53, 54, 55, 56, 57, 48, 49, 50, 51, 52, 53, 54, 55]⟩, .string ⟨#[]⟩, .bool false, .bool false, .string ⟨#[]⟩, .slice none 0 0, .int .i64 0]] w fun e w' => e = .returned (.int .i64 3) ∧ Below w.heap.size w w' :=
  (check_any ⟨4, 1, 1, 1, 0, 0, [49, 50, 51, 52, 53, 54, 55, 56, 57, 48, 49, 50, 51, 52, 53, 54, 55], [], false, false, [], [], 0⟩ none 0 0 w (recs_none w) (ok_none rfl (by decide) (by decide) (by decide) (by decide))).mono fun e w' ⟨h1, h2⟩ => ⟨by rw [h1, show checkM ⟨4, 1, 1, 1, 0, 0, [49, 50, 51, 52, 53, 54, 55, 56, 57, 48, 49, 50, 51, 52, 53, 54, 55], [], false, false, [], [], 0⟩ = 3 from by kernel_rfl]; rfl, h2⟩
theorem check_f (w : World) : Calls Try.prog 10 #[.agg #[.int .i64 1, .int .u64 1, .int .u64 0, .int .u64 0, .int .u64 0, .int .u64 0, .string ⟨#[49, 50, 51, 52, 53, 54, 55, 56, 57, 48, 49, 50, 51, 52, 53, 54, 55]⟩, .string ⟨#[]⟩, .bool false, .bool false, .string ⟨#[]⟩, .slice none 0 0, .int .i64 0]] w fun e w' => e = .returned (.int .i64 3) ∧ Below w.heap.size w w' :=
  (check_any ⟨1, 1, 0, 0, 0, 0, [49, 50, 51, 52, 53, 54, 55, 56, 57, 48, 49, 50, 51, 52, 53, 54, 55], [], false, false, [], [], 0⟩ none 0 0 w (recs_none w) (ok_none rfl (by decide) (by decide) (by decide) (by decide))).mono fun e w' ⟨h1, h2⟩ => ⟨by rw [h1, show checkM ⟨1, 1, 0, 0, 0, 0, [49, 50, 51, 52, 53, 54, 55, 56, 57, 48, 49, 50, 51, 52, 53, 54, 55], [], false, false, [], [], 0⟩ = 3 from by kernel_rfl]; rfl, h2⟩
theorem same_hello (p : Option Addr) (n c : Nat) (w : World) (h : RecsAt w p n c []) : Calls Try.prog 16 #[.agg #[.int .i64 1, .int .u64 3, .int .u64 0, .int .u64 0, .int .u64 0, .int .u64 0, .string ⟨#[]⟩, .string ⟨#[]⟩, .bool false, .bool false, .string ⟨#[]⟩, .slice p n c, .int .i64 0], .agg #[.int .i64 1, .int .u64 3, .int .u64 0, .int .u64 0, .int .u64 0, .int .u64 0, .string ⟨#[]⟩, .string ⟨#[]⟩, .bool false, .bool false, .string ⟨#[]⟩, .slice none 0 0, .int .i64 0]] w fun e w' => e = .returned (.bool true) ∧ Below w.heap.size w w' :=
  same_eq helloM p none n c 0 0 w h (recs_none w)
theorem kept {f : FuncId} {args : Array Value} {v : Value} (h : ∀ w, Calls Try.prog f args w fun e w' => e = .returned v ∧ Below w.heap.size w w') (w0 : World) : ∀ w, Below w0.heap.size w0 w → Calls Try.prog f args w fun e w' => e = .returned v ∧ Below w0.heap.size w0 w' :=
  fun w hb => (h w).mono fun e w' ⟨h1, h2⟩ => ⟨h1, hb.on h2⟩
set_option maxRecDepth 100000 in
set_option maxHeartbeats 4000000 in
theorem works_any (w : World) : Calls Try.prog 12 #[] w fun e w' => e = .returned (.bool true) ∧ Below w.heap.size w w' := by
  go_enter Try.func12, Try.ntmps12
  go_wp2_with fail
  refine (encode_hello w).mono ?_
  rintro e w1 ⟨rfl, hb1⟩
  go_wp2_with fail
  refine (decode_any [] w1 (by decide)).mono ?_
  rw [empty_read]
  rintro e w2 ⟨hb2, rfl⟩
  have hbb2 := hb1.on hb2
  clear hb1 hb2
  unfold msgV zeroMsg
  have hadd : (⟨#[1, 3, 0, 0, 0, 0, 0, 0, 0, 0, 0, 0, 0, 247, 77, 124, 165]⟩ : ByteArray) ++ ⟨#[0]⟩ = ⟨#[1, 3, 0, 0, 0, 0, 0, 0, 0, 0, 0, 0, 0, 247, 77, 124, 165, 0]⟩ := by kernel_rfl
  go_wp2_with fail
  have hbb3 := below_one hbb2 (.cells #[.int .i64 0, .int .u64 0, .int .u64 0, .int .u64 0, .int .u64 0, .int .u64 0, .string ⟨#[]⟩, .string ⟨#[]⟩, .bool false, .bool false, .string ⟨#[]⟩, .slice none 0 0, .int .i64 0] 26)
  clear hbb2
  refine (decode_any [1, 3, 0, 0, 0, 0, 0, 0, 0, 0, 0, 0, 0, 247, 77, 124, 165, 0] _ (by decide)).mono ?_
  rw [long_read]
  rintro e w4 ⟨hb4, rfl⟩
  have hbb4 := hbb3.on hb4
  clear hbb3 hb4
  unfold msgV zeroMsg
  go_wp2_with fail
  have hbb5 := below_one hbb4 (.cells #[.int .i64 0, .int .u64 0, .int .u64 0, .int .u64 0, .int .u64 0, .int .u64 0, .string ⟨#[]⟩, .string ⟨#[]⟩, .bool false, .bool false, .string ⟨#[]⟩, .slice none 0 0, .int .i64 0] 26)
  clear hbb4
  refine (decode_any [1, 3, 0, 0, 0, 0, 0, 0, 0, 0, 0, 0, 0, 247, 77, 124, 165] _ (by decide)).mono ?_
  rw [hello_read]
  rintro e w6 ⟨hb6, p, n, c, rfl, hr6, hok6⟩
  have hbb6 := hbb5.on hb6
  clear hbb5 hb6 hok6
  unfold msgV helloM
  go_upto_region 6 with fail
  have hM : MsgAt (w6.alloc (.cells #[.int .i64 1, .int .u64 3, .int .u64 0, .int .u64 0, .int .u64 0, .int .u64 0, .string ⟨#[]⟩, .string ⟨#[]⟩, .bool false, .bool false, .string ⟨#[]⟩, .slice p n c, .int .i64 0] 26)) w6.heap.size helloM p n c := Blk.new w6 (msgCells helloM p n c) _
  have hb7 := (Below.refl w6.heap.size w6).alloc (Nat.le_refl _) (.cells #[.int .i64 1, .int .u64 3, .int .u64 0, .int .u64 0, .int .u64 0, .int .u64 0, .string ⟨#[]⟩, .string ⟨#[]⟩, .bool false, .bool false, .string ⟨#[]⟩, .slice p n c, .int .i64 0] 26)
  have hr7 := hr6.on hb7
  have hbb7 := hbb6.on hb7
  clear hb7 hr6 hbb6
  generalize w6.alloc (.cells #[.int .i64 1, .int .u64 3, .int .u64 0, .int .u64 0, .int .u64 0, .int .u64 0, .string ⟨#[]⟩, .string ⟨#[]⟩, .bool false, .bool false, .string ⟨#[]⟩, .slice p n c, .int .i64 0] 26) = w7 at *
  generalize w6.heap.size = P at *
  have HC := Lib.hid (show ∀ w', Below w7.heap.size w7 w' → w'.cell? ⟨P, 0, none⟩ = some (.int .i64 1) ∧ w'.cell? ⟨P, 1, none⟩ = some (.int .u64 3) ∧ w'.cell? ⟨P, 2, none⟩ = some (.int .u64 0) ∧ w'.cell? ⟨P, 3, none⟩ = some (.int .u64 0) ∧ w'.cell? ⟨P, 4, none⟩ = some (.int .u64 0) ∧ w'.cell? ⟨P, 5, none⟩ = some (.int .u64 0) ∧ w'.cell? ⟨P, 6, none⟩ = some (.string ⟨#[]⟩) ∧ w'.cell? ⟨P, 7, none⟩ = some (.string ⟨#[]⟩) ∧ w'.cell? ⟨P, 8, none⟩ = some (.bool false) ∧ w'.cell? ⟨P, 9, none⟩ = some (.bool false) ∧ w'.cell? ⟨P, 10, none⟩ = some (.string ⟨#[]⟩) ∧ w'.cell? ⟨P, 11, none⟩ = some (.slice p n c) ∧ w'.cell? ⟨P, 12, none⟩ = some (.int .i64 0) from fun w' hb => by
    have h1 : MsgAt w' P helloM p n c := Blk.on hM hb
    exact h1.cells)
  have HR := Lib.hid (show ∀ w', Below w7.heap.size w7 w' → RecsAt w' p n c [] from fun w' hb => hr7.on hb)
  have HS := Lib.hid (show ∀ w', Below w7.heap.size w7 w' → Calls Try.prog 16 #[.agg #[.int .i64 1, .int .u64 3, .int .u64 0, .int .u64 0, .int .u64 0, .int .u64 0, .string ⟨#[]⟩, .string ⟨#[]⟩, .bool false, .bool false, .string ⟨#[]⟩, .slice p n c, .int .i64 0], .agg #[.int .i64 1, .int .u64 3, .int .u64 0, .int .u64 0, .int .u64 0, .int .u64 0, .string ⟨#[]⟩, .string ⟨#[]⟩, .bool false, .bool false, .string ⟨#[]⟩, .slice none 0 0, .int .i64 0]] w' fun e w'' => e = .returned (.bool true) ∧ Below w7.heap.size w7 w'' from fun w' hb => (same_hello p n c w' (HR.out w' hb)).mono fun e w'' ⟨h1, h2⟩ => ⟨h1, hb.on h2⟩)
  clear hM hr7 hadd
  have heq : (ByteArray.toList ⟨#[1, 3, 0, 0, 0, 0, 0, 0, 0, 0, 0, 0, 0, 247, 77, 124, 165]⟩ == ByteArray.toList ⟨#[1, 3, 0, 0, 0, 0, 0, 0, 0, 0, 0, 0, 0, 247, 77, 124, 165]⟩) = true := by kernel_rfl
  refine wp_region_text (Below w7.heap.size w7) (Below.refl _ _) ?_
  repeat (first
    | (refine settled_not ?_ ?_
       · rfl
       simp only [Act.put, List.setIfInBounds_toArray, List.set_cons_zero, List.set_cons_succ])
    | (refine settled_val (v := ?_) ?_ (fun w' hS => ?_) ?_
       rotate_left
       · rfl
       · obtain ⟨k0, k1, k2, k3, k4, k5, k6, k7, k8, k9, k10, k11, k12⟩ := HC.out w' hS
         go_simp
         with_reducible rfl
       simp only [Act.put, List.setIfInBounds_toArray, List.set_cons_zero, List.set_cons_succ])
    | (refine settled_call (f := 18) (v := .string ⟨#[1, 3, 0, 0, 0, 0, 0, 0, 0, 0, 0, 0, 0, 247, 77, 124, 165]⟩) ?_ (fun w' hS => ?_) (fun w' hS => kept seal_hello w7 w' hS) ?_
       · rfl
       · go_simp
       simp only [Act.put, List.setIfInBounds_toArray, List.set_cons_zero, List.set_cons_succ])
    | (refine settled_call (f := 16) (v := .bool true) ?_ (fun w' hS => ?_) (fun w' hS => HS.out w' hS) ?_
       · rfl
       · go_simp
       simp only [Act.put, List.setIfInBounds_toArray, List.set_cons_zero, List.set_cons_succ])
    | (refine settled_call (f := 10) (v := .int .i64 2) ?_ (fun w' hS => ?_) (fun w' hS => kept check_a w7 w' hS) ?_
       · rfl
       · go_simp
       simp only [Act.put, List.setIfInBounds_toArray, List.set_cons_zero, List.set_cons_succ])
    | (refine settled_call (f := 10) (v := .int .i64 2) ?_ (fun w' hS => ?_) (fun w' hS => kept check_b w7 w' hS) ?_
       · rfl
       · go_simp
       simp only [Act.put, List.setIfInBounds_toArray, List.set_cons_zero, List.set_cons_succ])
    | (refine settled_call (f := 10) (v := .int .i64 2) ?_ (fun w' hS => ?_) (fun w' hS => kept check_c w7 w' hS) ?_
       · rfl
       · go_simp
       simp only [Act.put, List.setIfInBounds_toArray, List.set_cons_zero, List.set_cons_succ])
    | (refine settled_call (f := 10) (v := .int .i64 2) ?_ (fun w' hS => ?_) (fun w' hS => kept check_d w7 w' hS) ?_
       · rfl
       · go_simp
       simp only [Act.put, List.setIfInBounds_toArray, List.set_cons_zero, List.set_cons_succ])
    | (refine settled_call (f := 10) (v := .int .i64 3) ?_ (fun w' hS => ?_) (fun w' hS => kept check_e w7 w' hS) ?_
       · rfl
       · go_simp
       simp only [Act.put, List.setIfInBounds_toArray, List.set_cons_zero, List.set_cons_succ])
    | (refine settled_call (f := 10) (v := .int .i64 3) ?_ (fun w' hS => ?_) (fun w' hS => kept check_f w7 w' hS) ?_
       · rfl
       · go_simp
       simp only [Act.put, List.setIfInBounds_toArray, List.set_cons_zero, List.set_cons_succ]))
  refine settled_nil (fun w' hS => ?_)
  go_wp2_with fail
  refine bodyPost_ret (results_tmp rfl _ _ _) rfl ⟨rfl, hbb7.on hS⟩
end Go.Proofs.Ytnijijcbdajodaa
