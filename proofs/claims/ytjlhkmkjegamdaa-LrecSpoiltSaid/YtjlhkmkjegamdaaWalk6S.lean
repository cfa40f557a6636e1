/-
  The walk of LrecSpoilt.
-/
import Derived.Test.YtjlhkmkjegamdaaSpoil6
import Derived.Test.YtjlhkmkjegamdaaWalk6C
import Derived.RegionTactic
namespace Go.Proofs.Ytjlhkmkjegamdaa
set_option linter.unusedVariables false
set_option linter.unusedSimpArgs false
open Go.RowKit

theorem xor8 (c d : UInt8) : bits BinOp.xor .u8 (c.toNat : Int) (d.toNat : Int) = ((c ^^^ d).toNat : Int) := by
  rw [u8_xor_nat _ _ c.toNat_lt d.toNat_lt, UInt8.toNat_xor]
theorem xor_other (c d : UInt8) (h : d.toNat ≠ 0) : c ≠ c ^^^ d := by
  intro e
  apply h
  have h1 : c.toNat = c.toNat ^^^ d.toNat := by rw [← UInt8.toNat_xor, ← e]
  have h2 : c.toNat ^^^ c.toNat = c.toNat ^^^ (c.toNat ^^^ d.toNat) := by rw [← h1]
  rw [Nat.xor_self, ← Nat.xor_assoc, Nat.xor_self, Nat.zero_xor] at h2
  exact h2.symm

set_option maxRecDepth 100000 in
set_option maxHeartbeats 1000000 in
theorem spoilt_any (ts first n c : Nat) (a : Option Addr) (rs : List Rec) (k : Nat) (d : UInt8) (w : World) (h : RecsAt w a n c rs) (hr : ∀ r ∈ rs, r.ok) (ht : ts < U64) (hf : first < U64) (hk : k ≤ 65535) :
    Calls Try.prog 6 #[entryV ts first a n c, .int .u16 k, .int .u8 (d.toNat : Int)] w fun e w' => e = .returned (.bool true) ∧ Below w.heap.size w w' := by
  have hd256 := d.toNat_lt
  unfold entryV
  go_enter Try.func6, Try.ntmps6
  go_wp2_with fail
  have hE : Blk (w.alloc (.cells #[.int .u64 ts, .int .u64 first, .slice a n c] 27)) w.heap.size (entryCells ts first a n c) 27 := Blk.new _ _ _
  have hb0 := (Below.refl w.heap.size w).alloc (Nat.le_refl _) (.cells #[.int .u64 ts, .int .u64 first, .slice a n c] 27)
  have hr0 := h.on hb0
  have hold : ∀ g o, a = some ⟨g, o, none⟩ → 0 < n → g < w.heap.size := fun g o e hn => h.old hn g o e
  generalize w.alloc (.cells #[.int .u64 ts, .int .u64 first, .slice a n c] 27) = w0 at *
  clear h
  refine (works_any w0).mono ?_
  rintro e w1 ⟨rfl, hb1⟩
  have hE1 := hE.on hb1
  have hr1 := hr0.on hb1
  have hbb1 := hb0.on hb1
  clear hE hb0 hr0 hb1
  generalize hm : min n 10 = m
  have hm1 : m ≤ n := by omega
  have hm2 : m ≤ 10 := by omega
  have hmi : min (n : Int) 10 = (m : Int) := by omega
  have hnc := hr1.cap
  have hnm := hr1.max
  obtain ⟨e0, e1, e2⟩ := entry_load hE1
  have z2 := hE1.free 2
  have hmin : ∀ w', (Builtin.min_ #[3, 3] 3 #[.int .i64 n, .int .i64 10]).run Try.prog w' = .ok (.int .i64 m) w' := by
    intro w'
    rw [run_min_int2, show (if (10 : Int) < n then (10 : Int) else n) = m from by split <;> omega]
  go_wp2_with fail
  have hE2 := hE1.set 2 (.slice a m c)
  have hbb2 := hbb1.setCell (p := ⟨w.heap.size, 2, none⟩) (Nat.le_refl _) (.slice a m c)
  have hr2 := (hr1.take m hm1).other0 ⟨w.heap.size, 2, none⟩ (.slice a m c) (fun hn g o e => by
    have := hold g o e (by omega)
    show g ≠ w.heap.size
    omega)
  have hrm : ∀ r ∈ rs.take m, r.ok := fun r h => hr r (List.mem_of_mem_take h)
  generalize w1.setCell ⟨w.heap.size, 2, none⟩ (.slice a m c) = w2 at *
  clear e0 e1 e2 z2 hE1 hr1 hbb1 hold hmin
  refine (encode_any ts first a m c (rs.take m) w2 hr2 hrm ht hf).mono ?_
  rintro e w3 ⟨rfl, hb3⟩
  have hbb3 := hbb2.on hb3
  clear hb3 hbb2 hr2 hE2
  by_cases hck : checkRes ts first (rs.take m) = 0
  · have hle := enc_len hck
    have hsp := read_spoilt hck
    have hh := (head_is hck).2
    rw [show encRes ts first (rs.take m) = encBytes ts first (rs.take m) from by unfold encRes; rw [if_pos hck], hck]
    generalize encBytes ts first (rs.take m) = s at *
    by_cases hd : d.toNat = 0
    · have hdi : ((d.toNat : Int) == 0) = true := by simp [hd]
      clear hsp
      go_wp2_with fail
      refine bodyPost_ret (results_tmp rfl _ _ _) rfl ⟨rfl, hbb3⟩
    · have hdi : ((d.toNat : Int) == 0) = false := by simp; omega
      obtain ⟨cap, w4, hconv, hrow, hb4, hsz, hcap⟩ := conv_bytes (P := Try.prog) w3 9 41 5 s Try.underlying9 Try.underlying41 Try.underlying5
      have Hsz := Lib.hid hsz
      have HSP := Lib.hid hsp
      clear hsz hsp
      have hpos : 0 < s.length - headLen s.length := by omega
      by_cases h128 : 128 < s.length
      · have h128i : decide ((s.length : Int) > 128) = true := by simp; omega
        obtain ⟨q, hq⟩ : ∃ q, k % (s.length - 2) = q := ⟨_, rfl⟩
        have h2 : headLen s.length = 2 := by unfold headLen; rw [if_pos h128]
        have hrem : Int.tmod (k : Int) ((s.length : Int) - 2) = (q : Int) := by
          rw [show ((s.length : Int) - 2) = ((s.length - 2 : Nat) : Int) from by omega, ← Int.ofNat_tmod, hq]
        have hql : 2 + q < s.length := by
          have := Nat.mod_lt k (show 0 < s.length - 2 by omega)
          omega
        have hne : ¬ ((s.length : Int) - 2 = 0) := by omega
        have HQ := Lib.hid hq
        clear hq
        go_upto_region 11 with fail
        obtain ⟨u, hu⟩ : ∃ u, s[2 + q] = u := ⟨_, rfl⟩
        obtain ⟨v, hv⟩ : ∃ v, u ^^^ d = v := ⟨_, rfl⟩
        have hrun := HSP.out (2 + q) v hql (by omega) (by rw [hu, ← hv]; exact xor_other u d hd)
        have hcell := hrow.byte hql
        rw [hu] at hcell
        have hfree := hrow.byteFree hql
        have hrow2 := hrow.setByte (2 + q) v
        have hx := xor8 u d
        rw [hv] at hx
        have hstr := conv_string (P := Try.prog) hrow2 41 9 cap Try.underlying41 Try.underlying5 Try.underlying9
        rw [List.length_set] at hstr
        have HR := Lib.hid hrun
        have HB4 := Lib.hid hb4
        clear hu hv hrun hrow hconv hrow2 hb4
        go_wp2_with fail
        refine (decode_any _ _ (by rw [List.length_set]; omega)).mono ?_
        rw [HR.out]
        rintro e w5 ⟨hb5, rfl⟩
        unfold entryV
        go_wp2_with fail
        refine bodyPost_ret (results_tmp rfl _ _ _) rfl ⟨rfl, ?_⟩
        have hb6 := ((hbb3.on HB4.out).setCell (p := ⟨w3.heap.size, 2 + q, none⟩) hbb3.size (.int .u8 (v.toNat : Int))).on hb5
        exact hb6.alloc hb6.size _
      · have h128i : decide ((s.length : Int) > 128) = false := by simp; omega
        obtain ⟨q, hq⟩ : ∃ q, k % (s.length - 1) = q := ⟨_, rfl⟩
        have h2 : headLen s.length = 1 := by unfold headLen; rw [if_neg h128]
        have hrem : Int.tmod (k : Int) ((s.length : Int) - 1) = (q : Int) := by
          rw [show ((s.length : Int) - 1) = ((s.length - 1 : Nat) : Int) from by omega, ← Int.ofNat_tmod, hq]
        have hql : 1 + q < s.length := by
          have := Nat.mod_lt k (show 0 < s.length - 1 by omega)
          omega
        have hne : ¬ ((s.length : Int) - 1 = 0) := by omega
        have HQ := Lib.hid hq
        clear hq
        go_upto_region 11 with fail
        obtain ⟨u, hu⟩ : ∃ u, s[1 + q] = u := ⟨_, rfl⟩
        obtain ⟨v, hv⟩ : ∃ v, u ^^^ d = v := ⟨_, rfl⟩
        have hrun := HSP.out (1 + q) v hql (by omega) (by rw [hu, ← hv]; exact xor_other u d hd)
        have hcell := hrow.byte hql
        rw [hu] at hcell
        have hfree := hrow.byteFree hql
        have hrow2 := hrow.setByte (1 + q) v
        have hx := xor8 u d
        rw [hv] at hx
        have hstr := conv_string (P := Try.prog) hrow2 41 9 cap Try.underlying41 Try.underlying5 Try.underlying9
        rw [List.length_set] at hstr
        have HR := Lib.hid hrun
        have HB4 := Lib.hid hb4
        clear hu hv hrun hrow hconv hrow2 hb4
        go_wp2_with fail
        refine (decode_any _ _ (by rw [List.length_set]; omega)).mono ?_
        rw [HR.out]
        rintro e w5 ⟨hb5, rfl⟩
        unfold entryV
        go_wp2_with fail
        refine bodyPost_ret (results_tmp rfl _ _ _) rfl ⟨rfl, ?_⟩
        have hb6 := ((hbb3.on HB4.out).setCell (p := ⟨w3.heap.size, 1 + q, none⟩) hbb3.size (.int .u8 (v.toNat : Int))).on hb5
        exact hb6.alloc hb6.size _
  · have hci : ((checkRes ts first (rs.take m) : Int) != 0) = true := by simp; omega
    go_wp2_with fail
    refine bodyPost_ret (results_tmp rfl _ _ _) rfl ⟨rfl, hbb3⟩
end Go.Proofs.Ytjlhkmkjegamdaa
