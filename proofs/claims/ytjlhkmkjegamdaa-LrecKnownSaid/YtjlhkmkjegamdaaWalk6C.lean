/-
  The walk of LrecCut.
-/
import Derived.Test.YtjlhkmkjegamdaaPlain6
import Derived.Test.YtjlhkmkjegamdaaLaw6B
namespace Go.Proofs.Ytjlhkmkjegamdaa
set_option linter.unusedVariables false
set_option linter.unusedSimpArgs false
open Go.RowKit

theorem RecsAt.take {w : World} {p : Option Addr} {n c : Nat} {rs : List Rec} (h : RecsAt w p n c rs) (m : Nat) (hm : m ≤ n) : RecsAt w p m c (rs.take m) := by
  have hl := h.len
  have hc := h.cap
  have hx := h.max
  refine ⟨by rw [List.length_take]; omega, by omega, by omega, fun hn => ?_⟩
  obtain ⟨g, o, e, hg, hi⟩ := h.at_ (by omega)
  refine ⟨g, o, e, hg, fun i hil => ?_⟩
  have hil' : i < rs.length := by rw [List.length_take] at hil; omega
  rw [List.getElem_take]
  exact hi i hil'

theorem RecsAt.other0 {w : World} {p : Option Addr} {n c : Nat} {rs : List Rec} (h : RecsAt w p n c rs) (a : Addr) (v : Value) (hne : 0 < n → ∀ g o, p = some ⟨g, o, none⟩ → g ≠ a.block) : RecsAt (w.setCell a v) p n c rs := by
  by_cases hn : 0 < n
  · exact h.other a v (hne hn)
  · exact ⟨h.len, h.cap, h.max, fun h0 => absurd h0 hn⟩

set_option maxHeartbeats 1000000 in
theorem cut_any (ts first n c : Nat) (a : Option Addr) (rs : List Rec) (k : Nat) (w : World) (h : RecsAt w a n c rs) (hr : ∀ r ∈ rs, r.ok) (ht : ts < U64) (hf : first < U64) (hk : k ≤ 65535) :
    Calls Try.prog 7 #[entryV ts first a n c, .int .u16 k] w fun e w' => e = .returned (.bool true) ∧ Below w.heap.size w w' := by
  unfold entryV
  go_enter Try.func7, Try.ntmps7
  go_wp2_with fail
  have hE : Blk (w.alloc (.cells #[.int .u64 ts, .int .u64 first, .slice a n c] 27)) w.heap.size (entryCells ts first a n c) 27 := Blk.new _ _ _
  have hb0 := (Below.refl w.heap.size w).alloc (Nat.le_refl _) (.cells #[.int .u64 ts, .int .u64 first, .slice a n c] 27)
  have hr0 := h.on hb0
  have hold : ∀ g o, a = some ⟨g, o, none⟩ → 0 < n → g < w.heap.size := fun g o e hn => h.old hn g o e
  generalize w.alloc (.cells #[.int .u64 ts, .int .u64 first, .slice a n c] 27) = w0 at *
  clear h
  refine (works_any w0).mono ?_
  rintro e w1 ⟨rfl, hb1⟩
  have hE1 := hE.on hb1
  have hr1 := hr0.on hb1
  have hbb1 := hb0.on hb1
  clear hE hb0 hr0 hb1
  generalize hm : min n 10 = m
  have hm1 : m ≤ n := by omega
  have hm2 : m ≤ 10 := by omega
  have hmi : min (n : Int) 10 = (m : Int) := by omega
  have hnc := hr1.cap
  have hnm := hr1.max
  obtain ⟨e0, e1, e2⟩ := entry_load hE1
  have z2 := hE1.free 2
  have hmin : ∀ w', (Builtin.min_ #[3, 3] 3 #[.int .i64 n, .int .i64 10]).run Try.prog w' = .ok (.int .i64 m) w' := by
    intro w'
    rw [run_min_int2, show (if (10 : Int) < n then (10 : Int) else n) = m from by split <;> omega]
  go_wp2_with fail
  have hE2 := hE1.set 2 (.slice a m c)
  have hbb2 := hbb1.setCell (p := ⟨w.heap.size, 2, none⟩) (Nat.le_refl _) (.slice a m c)
  have hr2 := (hr1.take m hm1).other0 ⟨w.heap.size, 2, none⟩ (.slice a m c) (fun hn g o e => by
    have := hold g o e (by omega)
    show g ≠ w.heap.size
    omega)
  have hrm : ∀ r ∈ rs.take m, r.ok := fun r h => hr r (List.mem_of_mem_take h)
  generalize w1.setCell ⟨w.heap.size, 2, none⟩ (.slice a m c) = w2 at *
  clear e0 e1 e2 z2 hE1 hr1 hbb1 hold
  refine (encode_any ts first a m c (rs.take m) w2 hr2 hrm ht hf).mono ?_
  rintro e w3 ⟨rfl, hb3⟩
  have hbb3 := hbb2.on hb3
  clear hb3 hbb2 hr2 hE2
  by_cases hck : checkRes ts first (rs.take m) = 0
  · have hle := enc_len hck
    have hcut := read_cut hck ht hf
    have hpos : 0 < (encBytes ts first (rs.take m)).length := by
      have := (Wire.put_length 9 (sealI (bodyBytes ts first (rs.take m))).length).1
      unfold encBytes Wire.putText Wire.putNum
      rw [List.length_append]
      omega
    rw [show encRes ts first (rs.take m) = encBytes ts first (rs.take m) from by unfold encRes; rw [if_pos hck], hck]
    generalize encBytes ts first (rs.take m) = s at *
    have hrem : Int.tmod (k : Int) (s.length : Int) = ((k % s.length : Nat) : Int) := by
      rw [Int.ofNat_tmod]
    have hlt : k % s.length < s.length := Nat.mod_lt _ hpos
    have hne : ¬ (s.length = 0) := by omega
    generalize hq : k % s.length = q at *
    go_wp2_with fail
    rw [extract_list, List.drop_zero, Nat.sub_zero]
    refine (decode_any _ w3 (by simp; omega)).mono ?_
    rw [hcut q hlt]
    rintro e w4 ⟨hb4, rfl⟩
    have hbb4 := hbb3.on hb4
    unfold entryV
    go_wp2_with fail
    refine bodyPost_ret (results_tmp rfl _ _ _) rfl ⟨rfl, ?_⟩
    exact hbb4.alloc hbb4.size _
  · have hci : ((checkRes ts first (rs.take m) : Int) != 0) = true := by simp; omega
    go_wp2_with fail
    refine bodyPost_ret (results_tmp rfl _ _ _) rfl ⟨rfl, hbb3⟩
end Go.Proofs.Ytjlhkmkjegamdaa
