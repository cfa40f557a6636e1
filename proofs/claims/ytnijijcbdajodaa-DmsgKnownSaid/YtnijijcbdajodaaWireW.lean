/-
  The walks of package wire: PutNum, PutText, the reader. Condition: texts are shorter than 2^62.
-/
import Derived.Test.YtnijijcbdajodaaRows
import Derived.Test.YtnijijcbdajodaaWire
import Derived.Test.YtnijijcbdajodaaMem
import Derived.RegionTactic
import Derived.OpenShut
import Derived.Deep.DeepCutAuto
namespace Go.Proofs.Ytnijijcbdajodaa
set_option linter.unusedVariables false
set_option linter.unusedSimpArgs false
open Go.RowKit

/-- 2^64. -/
def U64 : Nat := 18446744073709551616
/-- What stands behind i digits. -/
structure Digs (w : World) (n : Nat) (i m : Nat) (ds : List UInt8) (wr : World) : Prop where
  len : ds.length = i
  le : i ≤ 9
  all : Wire.putNum n = ds ++ Wire.put (9 - i) m
  lt : m * 128 ^ i < U64
  blk : Blk wr w.heap.size (ds.map bv ++ List.replicate (10 - i) (.int .u8 0)) 77
  bel : Below w.heap.size w wr

theorem put_small (f m : Nat) (h : m < 128) : Wire.put f m = [UInt8.ofNat m] := by cases f <;> simp [Wire.put, h]
theorem put_big (f m : Nat) (h : 128 ≤ m) : Wire.put (f + 1) m = UInt8.ofNat (128 + m % 128) :: Wire.put f (m / 128) := by
  rw [Wire.put, if_neg (by omega)]
theorem or_digit (m : Nat) : bits BinOp.or .u8 128 ((m : Int) % 256) = ((UInt8.ofNat (128 + m % 128)).toNat : Int) := by
  have e1 : ((m : Int) % 256) = ((m % 256 : Nat) : Int) := by omega
  have h := u8_or_nat 128 (m % 256) (by omega) (by omega)
  rw [e1, Wire.ofNat_nat _ (by omega)]
  rw [show ((128 : Nat) : Int) = 128 from rfl] at h
  rw [h]
  congr 1
  have : ∀ x : Fin 256, 128 ||| x.val = 128 + x.val % 128 := by decide +kernel
  have := this ⟨m % 256, by omega⟩
  simp only at this
  rw [this]; omega
theorem Digs.step {w : World} {n i m : Nat} {ds : List UInt8} {wr : World} (h : Digs w n i m ds wr) (hm : 128 ≤ m) (hi : i ≤ 8) :
    Digs w n (i + 1) (m / 128) (ds ++ [UInt8.ofNat (128 + m % 128)]) (wr.setCell ⟨w.heap.size, i, none⟩ (.int .u8 (bits BinOp.or .u8 128 ((m : Int) % 256)))) := by
  refine ⟨by simp [h.len], by omega, ?_, ?_, ?_, h.bel.setCell (Nat.le_refl _) _⟩
  · rw [h.all, List.append_assoc, show 9 - i = (9 - (i + 1)) + 1 from by omega, put_big _ _ hm]; rfl
  · have := h.lt
    have e : m / 128 * 128 ^ (i + 1) ≤ m * 128 ^ i := by
      rw [Wire.pow128, ← Nat.mul_assoc]; exact Nat.mul_le_mul_right _ (by omega)
    omega
  · have hb := h.blk.set i (.int .u8 (bits BinOp.or .u8 128 ((m : Int) % 256)))
    rw [or_digit] at *
    have e : ((ds.map bv) ++ List.replicate (10 - i) (Value.int .u8 0)).set i (.int .u8 ((UInt8.ofNat (128 + m % 128)).toNat : Int)) = (ds ++ [UInt8.ofNat (128 + m % 128)]).map bv ++ List.replicate (10 - (i + 1)) (.int .u8 0) := by
      rw [List.set_append_right _ _ (by simp [h.len]), show 10 - i = (10 - (i + 1)) + 1 from by omega, List.replicate_succ]
      simp [h.len, bv]
    rw [e] at hb
    exact hb
theorem Digs.last {w : World} {n i m : Nat} {ds : List UInt8} {wr : World} (h : Digs w n i m ds wr) (hm : m < 128) :
    Wire.putNum n = ds ++ [UInt8.ofNat m] ∧ Blk (wr.setCell ⟨w.heap.size, i, none⟩ (.int .u8 m)) w.heap.size ((Wire.putNum n).map bv ++ List.replicate (9 - i) (.int .u8 0)) 77 := by
  have e0 : Wire.putNum n = ds ++ [UInt8.ofNat m] := by rw [h.all, put_small _ _ hm]
  refine ⟨e0, ?_⟩
  have hb := h.blk.set i (.int .u8 (m : Int))
  have e : ((ds.map bv) ++ List.replicate (10 - i) (Value.int .u8 0)).set i (.int .u8 (m : Int)) = (Wire.putNum n).map bv ++ List.replicate (9 - i) (.int .u8 0) := by
    have hi := h.le
    rw [e0, List.set_append_right _ _ (by simp [h.len]), show 10 - i = (9 - i) + 1 from by omega, List.replicate_succ]
    simp [h.len, bv, Wire.ofNat_nat m (by omega)]
  rw [e] at hb
  exact hb
theorem info_u8 : (Try.prog.info? 5).map (fun i => (i.zero, i.size, i.bytes)) = some (some (.int .u8 0), 1, 1) := by kernel_rfl

set_option maxRecDepth 100000 in
set_option maxHeartbeats 1000000 in
theorem putNum_any (l : List UInt8) (n : Nat) (w : World) (hs : l.length ≤ 140737488355328) (hn : n < U64) :
    Calls Try.prog 20 #[.string ⟨l.toArray⟩, .int .u64 n] w fun e w' => e = .returned (.string ⟨(l ++ Wire.putNum n).toArray⟩) ∧ Below w.heap.size w w' := by
  go_enter Try.func20, Try.ntmps20
  go_wp2
  go_loopw [1, 6] (fun s1 s6 wr => ∃ (i m : Nat) (ds : List UInt8), s1 = .int .u64 m ∧ s6 = .int .i64 i ∧ Digs w n i m ds wr) (fun _ s6 _ => 10 - (intOf s6).toNat)
  case atStart => exact ⟨0, n, [], rfl, rfl, ⟨rfl, by omega, rfl, by rw [Nat.pow_zero, Nat.mul_one]; exact hn, Blk.new _ _ _, (Below.refl _ _).alloc (Nat.le_refl _) _⟩⟩
  case round =>
    obtain ⟨i, m, ds, rfl, rfl, hd⟩ := hrel
    have hi := hd.le
    by_cases hlt : 128 ≤ m
    · have hi8 : i ≤ 8 := by
        rcases Nat.lt_or_ge i 9 with h | h
        · omega
        · obtain rfl : i = 9 := by omega
          have h1 := hd.lt
          have e9 : (128 : Nat) ^ 9 = 9223372036854775808 := by decide
          rw [e9] at h1
          unfold U64 at h1
          omega
      have hcell : wr.cell? ⟨w.heap.size, i, none⟩ = some (.int .u8 0) := by
        rw [hd.blk.cell, List.getElem?_append_right (by simp [hd.len]), List.getElem?_replicate, if_pos (by simp [hd.len]; omega)]
      have hfree := hd.blk.free i
      have hnext := Lib.hid (hd.step hlt hi8)
      clear hd
      go_wp2
      go_roundw
      case rel => exact ⟨i + 1, m / 128, _, by go_num, by go_num, hnext.out⟩
      case measure => simp [intOf]; omega
    · have hcell : wr.cell? ⟨w.heap.size, i, none⟩ = some (.int .u8 0) := by
        rw [hd.blk.cell, List.getElem?_append_right (by simp [hd.len]), List.getElem?_replicate, if_pos (by simp [hd.len]; omega)]
      have hfree := hd.blk.free i
      obtain ⟨e0, hblk⟩ := hd.last (by omega)
      have hbel := hd.bel.setCell (p := ⟨w.heap.size, i, none⟩) (Nat.le_refl _) (.int .u8 m)
      have hlen : (Wire.putNum n).length = i + 1 := by rw [e0, List.length_append, hd.len]; rfl
      have E0 := Lib.hid hlen
      clear e0 hd hlen
      go_wp2_with fail
      generalize wr.setCell ⟨w.heap.size, i, none⟩ (.int .u8 m) = w1 at *
      obtain ⟨iu, hiu, hz0, hz1, hz2⟩ := info_parts info_u8
      obtain ⟨w2, hmk, hb2, hbel2, hsz2⟩ := make_row (P := Try.prog) w1 38 5 iu (.int .u8 0) (l.length + i + 1) Try.underlying38 hiu hz0 rfl hz1 .i64 .i64 (by rw [hz2]; omega) (by omega)
      have hus : (Try.prog.info? 5).map (·.size) = some 1 := by rw [hiu]; simp [hz1]
      obtain ⟨w3, hc3, hb3, hm3, hs3⟩ := copy_str (P := Try.prog) hb2.drew 38 9 3 5 0 (l.length + i + 1) (l.length + i + 1) l Try.underlying38 hus (by omega) (by simp; omega)
      have ee : (((l.length + i + 1 : Nat)) : Int) = (l.length : Int) + (i : Int) + 1 := by omega
      rw [ee] at hmk
      clear ee
      have hlt0 := hblk.lt
      have hblk3 : Blk w3 w.heap.size ((Wire.putNum n).map bv ++ List.replicate (9 - i) (.int .u8 0)) 77 := ((hblk.on hbel2).drew).mod hm3 (by simp; omega)
      obtain ⟨w4, hc4, hb4, hm4, hs4⟩ := copy_row (P := Try.prog) hb3 38 38 3 5 l.length (l.length + i + 1 - l.length) (l.length + i + 1 - l.length) ⟨w.heap.size, 0, none⟩ (i + 1) 10 ((Wire.putNum n).map bv)
        Try.underlying38 hus (by rw [List.length_map, E0.out]; show i + 1 = min (i + 1) _; omega) (fun j v hj => by
          have hp : (⟨w.heap.size, 0, none⟩ : Addr).add j = ⟨w.heap.size, j, none⟩ := by unfold Addr.add; split <;> simp_all
          have hjl := (List.getElem?_eq_some_iff.1 hj).1
          rw [hp, hblk3.cell, List.getElem?_append_left hjl, hj]) (by simp [E0.out]; omega) (by
          intro v hv
          obtain ⟨c, _, rfl⟩ := List.mem_map.1 hv
          rfl)
      have hfin : Below w.heap.size w w4 := by
        have h2 := (Mod.of_below (S := [w1.heap.size]) hbel2).drew.trans (hm3.trans hm4)
        exact hbel.trans (h2.below (by simp; omega) (by omega))
      have hrow : RowAt w4 w1.heap.size 5 ((l ++ Wire.putNum n).map bv) := by
        have h := hb4.row
        have e4 : ∀ (z : Value), List.take l.length (List.take 0 (List.replicate (l.length + i + 1) z) ++ List.map bv l ++ List.drop (0 + l.length) (List.replicate (l.length + i + 1) z)) ++ List.map bv (Wire.putNum n) ++
            List.drop (l.length + (List.map bv (Wire.putNum n)).length) (List.take 0 (List.replicate (l.length + i + 1) z) ++ List.map bv l ++ List.drop (0 + l.length) (List.replicate (l.length + i + 1) z)) = (l ++ Wire.putNum n).map bv := by
          intro z
          rw [List.take_zero, List.nil_append, List.take_left' (by simp), List.drop_of_length_le (by simp [E0.out]; omega), List.append_nil, List.map_append]
        rw [e4] at h
        exact h
      have hconv := conv_string (P := Try.prog) hrow 38 9 (l.length + i + 1) Try.underlying38 Try.underlying5 Try.underlying9
      rw [List.length_append, E0.out, ← Nat.add_assoc] at hconv
      generalize hg : w1.heap.size = g at *
      have HG := Lib.hid hg
      have HS2 := Lib.hid hsz2
      have HS3 := Lib.hid hs3
      have HS4 := Lib.hid hs4
      clear hg hsz2 hs3 hs4
      rw [hmk]
      clear hmk
      go_wp2_with fail
      have q1 : (l.length : Int) ≤ l.length + i + 1 := by omega
      have q2 : ¬ (l.length + i + 1 = l.length) := by omega
      have q3 : (i : Int) + 1 ≤ 10 := by omega
      have q4 : (0 : Int) ≤ (i : Int) + 1 := by omega
      go_region
      go_wp2_with fail
      go_ret
      exact ⟨rfl, hfin⟩
end Go.Proofs.Ytnijijcbdajodaa
