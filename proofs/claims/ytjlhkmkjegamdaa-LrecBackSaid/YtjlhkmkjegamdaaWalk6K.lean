/-
  The walk of LrecBack.
-/
import Derived.Test.YtjlhkmkjegamdaaWalk6C
import Derived.Test.YtjlhkmkjegamdaaOpen6
import Derived.Deep.DeepCutAuto
namespace Go.Proofs.Ytjlhkmkjegamdaa
set_option linter.unusedVariables false
set_option linter.unusedSimpArgs false
open Go.RowKit

theorem good_ok {first : Nat} : ∀ {i : Nat} {seen : List (List UInt8)} {rs : List Rec}, goodFrom first i seen rs = true → ∀ r ∈ rs, r.ok
  | _, _, [], _, r, hr => by simp at hr
  | i, seen, x :: xs, h, r, hr => by
    simp only [goodFrom, Bool.and_eq_true] at h
    rcases List.mem_cons.1 hr with rfl | hr
    · have h1 := h.1
      simp only [goodOp, Bool.and_eq_true, beq_iff_eq] at h1
      obtain ⟨m1, m2, _, _⟩ := may_zero h1.1.1.1
      refine ⟨by omega, by omega, ?_⟩
      rw [h1.1.1.2]
      exact Nat.mod_lt _ (by decide)
    · exact good_ok h.2 r hr

set_option maxRecDepth 100000 in
set_option maxHeartbeats 2000000 in
theorem back_any (ts first n c : Nat) (a : Option Addr) (rs : List Rec) (l : List UInt8) (w : World) (h : RecsAt w a n c rs) (hr : ∀ r ∈ rs, r.ok) (ht : ts < U64) (hf : first < U64) (hl : l.length ≤ 9223372036854775807) :
    Calls Try.prog 5 #[entryV ts first a n c, .string ⟨l.toArray⟩] w fun e w' => e = .returned (.bool true) ∧ Below w.heap.size w w' := by
  unfold entryV
  go_enter Try.func5, Try.ntmps5
  go_wp2_with fail
  have hE : Blk (w.alloc (.cells #[.int .u64 ts, .int .u64 first, .slice a n c] 27)) w.heap.size (entryCells ts first a n c) 27 := Blk.new _ _ _
  have hb0 := (Below.refl w.heap.size w).alloc (Nat.le_refl _) (.cells #[.int .u64 ts, .int .u64 first, .slice a n c] 27)
  have hr0 := h.on hb0
  have hold : ∀ g o, a = some ⟨g, o, none⟩ → 0 < n → g < w.heap.size := fun g o e hn => h.old hn g o e
  generalize w.alloc (.cells #[.int .u64 ts, .int .u64 first, .slice a n c] 27) = w0 at *
  clear h
  refine (works_any w0).mono ?_
  rintro e w1 ⟨rfl, hb1⟩
  have hE1 := hE.on hb1
  have hr1 := hr0.on hb1
  have hbb1 := hb0.on hb1
  clear hE hb0 hr0 hb1
  generalize hm : min n 10 = m
  have hm1 : m ≤ n := by omega
  have hm2 : m ≤ 10 := by omega
  have hnc := hr1.cap
  have hnm := hr1.max
  obtain ⟨e0, e1, e2⟩ := entry_load hE1
  have z2 := hE1.free 2
  have hmin : ∀ w', (Builtin.min_ #[3, 3] 3 #[.int .i64 n, .int .i64 10]).run Try.prog w' = .ok (.int .i64 m) w' := by
    intro w'
    rw [run_min_int2, show (if (10 : Int) < n then (10 : Int) else n) = m from by split <;> omega]
  generalize hq : min l.length 2000 = q
  have hq1 : q ≤ l.length := by omega
  have hq2 : q ≤ 2000 := by omega
  have hminq : ∀ w', (Builtin.min_ #[3, 3] 3 #[.int .i64 l.length, .int .i64 2000]).run Try.prog w' = .ok (.int .i64 q) w' := by
    intro w'
    rw [run_min_int2, show (if (2000 : Int) < l.length then (2000 : Int) else l.length) = q from by split <;> omega]
  have hE2 := hE1.set 2 (.slice a m c)
  have hbb2 := hbb1.setCell (p := ⟨w.heap.size, 2, none⟩) (Nat.le_refl _) (.slice a m c)
  have hr2 := (hr1.take m hm1).other0 ⟨w.heap.size, 2, none⟩ (.slice a m c) (fun hn g o e => by
    have := hold g o e (by omega)
    show g ≠ w.heap.size
    omega)
  have hrm : ∀ r ∈ rs.take m, r.ok := fun r h => hr r (List.mem_of_mem_take h)
  have hx : (⟨l.toArray⟩ : ByteArray).extract 0 q = ⟨(l.take q).toArray⟩ := by rw [extract_list, List.drop_zero, Nat.sub_zero]
  go_upto_region 5 with fail
  have hE3 : Blk (w1.setCell ⟨w.heap.size, 2, none⟩ (.slice a m c)) w.heap.size (entryCells ts first a m c) 27 := hE2
  generalize w1.setCell ⟨w.heap.size, 2, none⟩ (.slice a m c) = w2 at *
  generalize hb : l.take q = b at *
  have hbl : b.length = q := by rw [← hb, List.length_take]; omega
  clear e0 e1 e2 z2 hE1 hr1 hbb1 hold hE2 hmin hminq hx
  obtain ⟨e0, e1, e2⟩ := entry_load hE3
  go_wp2_with fail
  refine (encode_any ts first a m c (rs.take m) w2 hr2 hrm ht hf).mono ?_
  rintro e w3 ⟨rfl, hb3⟩
  have hE4 := hE3.on hb3
  have hr4 := hr2.on hb3
  have hbb4 := hbb2.on hb3
  clear hb3 hbb2 hr2 hE3 e0 e1 e2
  generalize rs.take m = os at *
  obtain ⟨e0, e1, e2⟩ := entry_load hE4
  go_upto_if 36 with fail
  go_cut [4, 5, 6, 7, 8, 9] (fun _ _ _ _ _ _ wx => Below w.heap.size w wx)
  case first =>
    by_cases hck : checkRes ts first os = 0
    · have hle := enc_len hck
      have hrb := read_back hck ht hf b
      rw [show encRes ts first os = encBytes ts first os from by unfold encRes; rw [if_pos hck], hck]
      generalize encBytes ts first os = s at *
      have happ : (⟨s.toArray⟩ : ByteArray) ++ ⟨b.toArray⟩ = ⟨(s ++ b).toArray⟩ := by
        apply ByteArray.ext
        simp
      go_wp2_with fail
      refine (decode_any (s ++ b) w3 (by rw [List.length_append]; omega)).mono ?_
      rw [hrb]
      rintro e w4 ⟨hb4, a3, n3, c3, rfl, hr5⟩
      have hE5 := hE4.on hb4
      have hr6 := hr4.on hb4
      have hbb5 := hbb4.on hb4
      unfold entryV
      simp only at hr5 ⊢
      clear e0 e1 e2 hE4 hr4 hbb4 hb4
      go_upto_region 8 with fail
      have hF : Blk (w4.alloc (.cells #[.int .u64 ts, .int .u64 first, .slice a3 n3 c3] 27)) w4.heap.size (entryCells ts first a3 n3 c3) 27 := Blk.new _ _ _
      have hb7 := (Below.refl w4.heap.size w4).alloc (Nat.le_refl _) (.cells #[.int .u64 ts, .int .u64 first, .slice a3 n3 c3] 27)
      have hE6 := hE5.on hb7
      have hr7 := hr6.on hb7
      have hr8 := hr5.on hb7
      have hbb7 := hbb5.on hb7
      generalize w4.alloc (.cells #[.int .u64 ts, .int .u64 first, .slice a3 n3 c3] 27) = w7 at *
      clear hE5 hr6 hr5 hbb5 hb7
      generalize w4.heap.size = F at *
      obtain ⟨e0, e1, e2⟩ := entry_load hE6
      obtain ⟨f0, f1, f2⟩ := entry_load hF
      go_wp2_with fail
      refine (show Calls Try.prog 19 #[.agg #[.int .u64 ts, .int .u64 first, .slice a3 n3 c3], .agg #[.int .u64 ts, .int .u64 first, .slice a m c]] w7 fun e w' => e = .returned (.bool true) ∧ Below w7.heap.size w7 w' from
        (same_any ⟨ts, first, os⟩ ⟨ts, first, os⟩ a3 a n3 c3 m c w7 hr8 hr7).mono fun e w' h => ⟨by rw [h.1]; simp, h.2⟩).mono ?_
      rintro e w8 ⟨rfl, hb8⟩
      go_wp2_with fail
      go_meet
      exact hbb7.on hb8
    · have hci : ((checkRes ts first os : Int) == 0) = false := by simp; omega
      rw [show encRes ts first os = [] from by unfold encRes; rw [if_neg hck]]
      go_wp2_with fail
      refine (check_any ts first a m c os w3 hr4 hrm hf).mono ?_
      rintro e w4 ⟨rfl, hb4⟩
      go_wp2_with fail
      go_meet
      exact hbb4.on hb4
  case rest =>
  have hbb5 := hcut
  clear hcut e0 e1 e2 hE4 hr4 hbb4
  go_wp2_with fail
  refine (decode_any b _ (by omega)).mono ?_
  rintro e w7 ⟨hb7, hm7⟩
  have hbb7 := hbb5.on hb7
  cases hro : readAll b with
  | none =>
    rw [hro] at hm7
    simp only at hm7
    subst hm7
    unfold entryV
    go_wp2_with fail
    refine bodyPost_ret (results_tmp rfl _ _ _) rfl ⟨rfl, ?_⟩
    exact hbb7.alloc hbb7.size _
  | some p =>
    obtain ⟨x, t⟩ := p
    rw [hro] at hm7
    obtain ⟨a2, n2, c2, rfl, hr7⟩ := hm7
    obtain ⟨q1, q2, q3, q4, q5⟩ := read_lays hro
    have hok7 := good_ok (check_good q2).all
    unfold entryV
    go_upto_region 15 with fail
    have hF : Blk (w7.alloc (.cells #[.int .u64 x.ts, .int .u64 x.first, .slice a2 n2 c2] 27)) w7.heap.size (entryCells x.ts x.first a2 n2 c2) 27 := Blk.new _ _ _
    have hb8 := (Below.refl w7.heap.size w7).alloc (Nat.le_refl _) (.cells #[.int .u64 x.ts, .int .u64 x.first, .slice a2 n2 c2] 27)
    have hr8 := hr7.on hb8
    have hbb8 := hbb7.on hb8
    generalize w7.alloc (.cells #[.int .u64 x.ts, .int .u64 x.first, .slice a2 n2 c2] 27) = w8 at *
    clear hr7 hbb7 hb8
    obtain ⟨f0, f1, f2⟩ := entry_load hF
    go_wp2_with fail
    refine (encode_any x.ts x.first a2 n2 c2 x.ops w8 hr8 hok7 q4 q5).mono ?_
    rintro e w9 ⟨rfl, hb9⟩
    rw [show encRes x.ts x.first x.ops = b.take t from by unfold encRes; rw [if_pos q2, q3], q2]
    have hex : (⟨b.toArray⟩ : ByteArray).extract 0 t = ⟨(b.take t).toArray⟩ := by rw [extract_list, List.drop_zero, Nat.sub_zero]
    clear q2 q3 hro
    generalize b.take t = U at *
    go_wp2_with fail
    refine bodyPost_ret (results_tmp rfl _ _ _) rfl ⟨rfl, hbb8.on hb9⟩
end Go.Proofs.Ytjlhkmkjegamdaa
