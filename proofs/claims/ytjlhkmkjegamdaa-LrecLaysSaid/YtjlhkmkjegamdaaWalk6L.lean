/-
  The walk of LrecLays.
-/
import Derived.Test.YtjlhkmkjegamdaaRef6E
import Derived.Test.YtjlhkmkjegamdaaWalk6C
import Derived.Deep.RegionHeld3
namespace Go.Proofs.Ytjlhkmkjegamdaa
set_option linter.unusedVariables false
set_option linter.unusedSimpArgs false
open Go.RowKit

/-- What a call that makes memory leaves of a record's and an entry's blocks. -/
theorem keep7 {f : FuncId} {args : Array Value} {w : World} {v : Value} (h : Calls Try.prog f args w fun e w' => e = .returned v ∧ Below w.heap.size w w')
    (P E : Nat) (p0 p1 p2 p3 e0 e1 e2 : Value) (w0 : World) (g0 : w.cell? ⟨P, 0, none⟩ = some p0) (g1 : w.cell? ⟨P, 1, none⟩ = some p1) (g2 : w.cell? ⟨P, 2, none⟩ = some p2) (g3 : w.cell? ⟨P, 3, none⟩ = some p3)
    (h0 : w.cell? ⟨E, 0, none⟩ = some e0) (h1 : w.cell? ⟨E, 1, none⟩ = some e1) (h2 : w.cell? ⟨E, 2, none⟩ = some e2) (hb : Below w0.heap.size w0 w) (hlt : P < w0.heap.size ∧ E < w0.heap.size) :
    Calls Try.prog f args w fun e w' => e = .returned v ∧ w'.cell? ⟨P, 0, none⟩ = some p0 ∧ w'.cell? ⟨P, 1, none⟩ = some p1 ∧ w'.cell? ⟨P, 2, none⟩ = some p2 ∧ w'.cell? ⟨P, 3, none⟩ = some p3 ∧
      w'.cell? ⟨E, 0, none⟩ = some e0 ∧ w'.cell? ⟨E, 1, none⟩ = some e1 ∧ w'.cell? ⟨E, 2, none⟩ = some e2 ∧ Below w0.heap.size w0 w' :=
  h.mono fun e w' ⟨he, hw⟩ => by
    have hP : P < w.heap.size := Nat.lt_of_lt_of_le hlt.1 hb.size
    have hE : E < w.heap.size := Nat.lt_of_lt_of_le hlt.2 hb.size
    exact ⟨he, (hw.cell (p := ⟨P, 0, none⟩) hP).trans g0, (hw.cell (p := ⟨P, 1, none⟩) hP).trans g1, (hw.cell (p := ⟨P, 2, none⟩) hP).trans g2, (hw.cell (p := ⟨P, 3, none⟩) hP).trans g3,
      (hw.cell (p := ⟨E, 0, none⟩) hE).trans h0, (hw.cell (p := ⟨E, 1, none⟩) hE).trans h1, (hw.cell (p := ⟨E, 2, none⟩) hE).trans h2, hb.on hw⟩

set_option maxRecDepth 100000 in
set_option maxHeartbeats 4000000 in
theorem lays_any (x : Rec) (ts first n c : Nat) (a : Option Addr) (rs : List Rec) (w : World) (hx : x.ok) (h : RecsAt w a n c rs) (hr : ∀ r ∈ rs, r.ok) (ht : ts < U64) (hf : first < U64) :
    Calls Try.prog 3 #[recV x, entryV ts first a n c] w fun e w' => e = .returned (.bool true) ∧ Below w.heap.size w w' := by
  unfold entryV recV
  go_enter Try.func3, Try.ntmps3
  go_upto_region 1 with fail
  have hP : Blk ((w.alloc (.cells #[.string ⟨x.key.toArray⟩, .int .u64 x.lsn, .bool x.del, .string ⟨x.val.toArray⟩] 24)).alloc (.cells #[.int .u64 ts, .int .u64 first, .slice a n c] 27)) w.heap.size (recCells x) 24 := (Blk.new w (recCells x) 24).alloc _
  have hE : Blk ((w.alloc (.cells #[.string ⟨x.key.toArray⟩, .int .u64 x.lsn, .bool x.del, .string ⟨x.val.toArray⟩] 24)).alloc (.cells #[.int .u64 ts, .int .u64 first, .slice a n c] 27)) (w.heap.size + 1) (entryCells ts first a n c) 27 := by
    rw [show w.heap.size + 1 = (w.alloc (.cells #[.string ⟨x.key.toArray⟩, .int .u64 x.lsn, .bool x.del, .string ⟨x.val.toArray⟩] 24)).heap.size from by simp]
    exact Blk.new _ _ _
  have hb0 := ((Below.refl w.heap.size w).alloc (Nat.le_refl _) (.cells #[.string ⟨x.key.toArray⟩, .int .u64 x.lsn, .bool x.del, .string ⟨x.val.toArray⟩] 24)).alloc (by simp) (.cells #[.int .u64 ts, .int .u64 first, .slice a n c] 27)
  have hr0 := h.on hb0
  have hold : ∀ g o, a = some ⟨g, o, none⟩ → 0 < n → g < w.heap.size := fun g o e hn => h.old hn g o e
  generalize (w.alloc (.cells #[.string ⟨x.key.toArray⟩, .int .u64 x.lsn, .bool x.del, .string ⟨x.val.toArray⟩] 24)).alloc (.cells #[.int .u64 ts, .int .u64 first, .slice a n c] 27) = w1 at *
  clear h
  have hPE : w.heap.size ≠ w.heap.size + 1 := by omega
  have hle : w.heap.size ≤ w.heap.size + 1 := by omega
  generalize hEe : w.heap.size + 1 = E at *
  have HEe := Lib.hid hEe
  clear hEe
  generalize hm : min n 10 = m
  have hm1 : m ≤ n := by omega
  have hm2 : m ≤ 10 := by omega
  have hnc := hr0.cap
  have hnm := hr0.max
  obtain ⟨e0, e1, e2⟩ := entry_load hE
  have z2 := hE.free 2
  have hmin : ∀ w', (Builtin.min_ #[3, 3] 3 #[.int .i64 n, .int .i64 10]).run Try.prog w' = .ok (.int .i64 m) w' := by
    intro w'
    rw [run_min_int2, show (if (10 : Int) < n then (10 : Int) else n) = m from by split <;> omega]
  go_upto_region 2 with fail
  have hE2 := hE.set 2 (.slice a m c)
  have hP2 := hP.other ⟨E, 2, none⟩ (.slice a m c) hPE
  have hbb2 := hb0.setCell (p := ⟨E, 2, none⟩) hle (.slice a m c)
  have hr2 := (hr0.take m hm1).other0 ⟨E, 2, none⟩ (.slice a m c) (fun hn g o e => by
    have := hold g o e (by omega)
    show g ≠ E
    omega)
  have hrm : ∀ r ∈ rs.take m, r.ok := fun r h => hr r (List.mem_of_mem_take h)
  clear e0 e1 e2 z2 hE hr0 hb0 hold hmin hP
  have hE3 : Blk (w1.setCell ⟨E, 2, none⟩ (.slice a m c)) E (entryCells ts first a m c) 27 := hE2
  clear hE2
  generalize w1.setCell ⟨E, 2, none⟩ (.slice a m c) = w2 at *
  generalize rs.take m = os at *
  obtain ⟨e0, e1, e2⟩ := entry_load hE3
  go_wp2_with fail
  refine (encode_any ts first a m c os w2 hr2 hrm ht hf).mono ?_
  rintro e w3 ⟨rfl, hb3⟩
  have hP3 := hP2.on hb3
  have hE4 := hE3.on hb3
  have hr3 := hr2.on hb3
  have hbb3 := hbb2.on hb3
  clear e0 e1 e2 hE3 hr2 hbb2 hP2 hb3
  obtain ⟨e0, e1, e2⟩ := entry_load hE4
  go_wp2_with fail
  refine (rEncode_any ts first a m c os w3 hr3 hrm ht hf).mono ?_
  rintro e w4 ⟨rfl, hb4⟩
  have hP4 := hP3.on hb4
  have hE5 := hE4.on hb4
  have hr4 := hr3.on hb4
  have hbb4 := hbb3.on hb4
  clear e0 e1 e2 hE4 hr3 hbb3 hP3 hb4
  obtain ⟨e0, e1, e2⟩ := entry_load hE5
  have p0 : w4.cell? ⟨w.heap.size, 0, none⟩ = some (.string ⟨x.key.toArray⟩) := by rw [hP4.cell]; rfl
  have p1 : w4.cell? ⟨w.heap.size, 1, none⟩ = some (.int .u64 x.lsn) := by rw [hP4.cell]; rfl
  have p2 : w4.cell? ⟨w.heap.size, 2, none⟩ = some (.bool x.del) := by rw [hP4.cell]; rfl
  have p3 : w4.cell? ⟨w.heap.size, 3, none⟩ = some (.string ⟨x.val.toArray⟩) := by rw [hP4.cell]; rfl
  have hlt : w.heap.size < w4.heap.size ∧ E < w4.heap.size := ⟨hP4.lt, hE5.lt⟩
  have hrefl := Below.refl w4.heap.size w4
  have hdrew : Below w4.heap.size w4 w4.drew := below_drew hrefl
  clear hP4 hE5
  generalize encRes ts first os = S at *
  have hmay : ∀ w', Calls Try.prog 11 #[.agg #[.string ⟨x.key.toArray⟩, .int .u64 x.lsn, .bool x.del, .string ⟨x.val.toArray⟩]] w' fun e w'' => e = .returned (.int .i64 (may x)) ∧ Below w'.heap.size w' w'' := fun w' => may_any x w' hx
  have hmay2 : ∀ w', Calls Try.prog 12 #[.agg #[.string ⟨x.key.toArray⟩, .int .u64 x.lsn, .bool x.del, .string ⟨x.val.toArray⟩]] w' fun e w'' => e = .returned (.int .i64 (may x)) ∧ Below w'.heap.size w' w'' := fun w' => rMay_any x w' hx
  have hchk : ∀ w', Below w4.heap.size w4 w' → Calls Try.prog 13 #[.agg #[.int .u64 ts, .int .u64 first, .slice a m c]] w' fun e w'' => e = .returned (.int .i64 (checkRes ts first os)) ∧ Below w'.heap.size w' w'' := fun w' hb => check_any ts first a m c os w' (hr4.on hb) hrm hf
  have hchk2 : ∀ w', Below w4.heap.size w4 w' → Calls Try.prog 14 #[.agg #[.int .u64 ts, .int .u64 first, .slice a m c]] w' fun e w'' => e = .returned (.int .i64 (checkRes ts first os)) ∧ Below w'.heap.size w' w'' := fun w' hb => rCheck_any ts first a m c os w' (hr4.on hb) hrm hf
  generalize (may x : Int) = M at *
  generalize (checkRes ts first os : Int) = C at *
  have Hm := Lib.hid hmay
  have Hm2 := Lib.hid hmay2
  have Hc := Lib.hid hchk
  have Hc2 := Lib.hid hchk2
  clear hmay hmay2 hchk hchk2
  go_upto_region 4 with fail
  go_region_held3 (fun w' => w'.cell? ⟨w.heap.size, 0, none⟩ = some (.string ⟨x.key.toArray⟩) ∧ w'.cell? ⟨w.heap.size, 1, none⟩ = some (.int .u64 x.lsn) ∧ w'.cell? ⟨w.heap.size, 2, none⟩ = some (.bool x.del) ∧ w'.cell? ⟨w.heap.size, 3, none⟩ = some (.string ⟨x.val.toArray⟩) ∧
      w'.cell? ⟨E, 0, none⟩ = some (.int .u64 ts) ∧ w'.cell? ⟨E, 1, none⟩ = some (.int .u64 first) ∧ w'.cell? ⟨E, 2, none⟩ = some (.slice a m c) ∧ Below w4.heap.size w4 w') (go_keep)
    (first
      | (go_at_call 11; (with_reducible refine (keep7 (Hm.out _) w.heap.size E (.string ⟨x.key.toArray⟩) (.int .u64 x.lsn) (.bool x.del) (.string ⟨x.val.toArray⟩) (.int .u64 ts) (.int .u64 first) (.slice a m c) w4 ?_ ?_ ?_ ?_ ?_ ?_ ?_ ?_ hlt).mono ?_); assumption; assumption; assumption; assumption; assumption; assumption; assumption; assumption; rintro e w' ⟨rfl, k0, k1, k2, k3, k4, k5, k6, k7⟩)
      | (go_at_call 12; (with_reducible refine (keep7 (Hm2.out _) w.heap.size E (.string ⟨x.key.toArray⟩) (.int .u64 x.lsn) (.bool x.del) (.string ⟨x.val.toArray⟩) (.int .u64 ts) (.int .u64 first) (.slice a m c) w4 ?_ ?_ ?_ ?_ ?_ ?_ ?_ ?_ hlt).mono ?_); assumption; assumption; assumption; assumption; assumption; assumption; assumption; assumption; rintro e w' ⟨rfl, k0, k1, k2, k3, k4, k5, k6, k7⟩)
      | (go_at_call 13; (with_reducible refine (keep7 (Hc.out _ ?_) w.heap.size E (.string ⟨x.key.toArray⟩) (.int .u64 x.lsn) (.bool x.del) (.string ⟨x.val.toArray⟩) (.int .u64 ts) (.int .u64 first) (.slice a m c) w4 ?_ ?_ ?_ ?_ ?_ ?_ ?_ ?_ hlt).mono ?_); assumption; assumption; assumption; assumption; assumption; assumption; assumption; assumption; assumption; rintro e w' ⟨rfl, k0, k1, k2, k3, k4, k5, k6, k7⟩)
      | (go_at_call 14; (with_reducible refine (keep7 (Hc2.out _ ?_) w.heap.size E (.string ⟨x.key.toArray⟩) (.int .u64 x.lsn) (.bool x.del) (.string ⟨x.val.toArray⟩) (.int .u64 ts) (.int .u64 first) (.slice a m c) w4 ?_ ?_ ?_ ?_ ?_ ?_ ?_ ?_ hlt).mono ?_); assumption; assumption; assumption; assumption; assumption; assumption; assumption; assumption; assumption; rintro e w' ⟨rfl, k0, k1, k2, k3, k4, k5, k6, k7⟩)
      | (go_at_call 15; (with_reducible refine (keep7 (works_any _) w.heap.size E (.string ⟨x.key.toArray⟩) (.int .u64 x.lsn) (.bool x.del) (.string ⟨x.val.toArray⟩) (.int .u64 ts) (.int .u64 first) (.slice a m c) w4 ?_ ?_ ?_ ?_ ?_ ?_ ?_ ?_ hlt).mono ?_); assumption; assumption; assumption; assumption; assumption; assumption; assumption; assumption; rintro e w' ⟨rfl, k0, k1, k2, k3, k4, k5, k6, k7⟩))
  all_goals
    go_wp2_with fail
    refine bodyPost_ret (results_tmp rfl _ _ _) rfl ⟨rfl, hbb4.on ?_⟩
    assumption
end Go.Proofs.Ytjlhkmkjegamdaa
