/-
  The walk of the document's Encode of layer 6. Condition: sizes that a machine has.
-/
import Derived.Test.YtjlhkmkjegamdaaRef6B
namespace Go.Proofs.Ytjlhkmkjegamdaa
set_option linter.unusedVariables false
set_option linter.unusedSimpArgs false
open Go.RowKit

set_option maxHeartbeats 1000000 in
theorem rEncode_any (ts first : Nat) (a : Option Addr) (n c : Nat) (rs : List Rec) (w : World) (h : RecsAt w a n c rs) (hr : ∀ r ∈ rs, r.ok) (ht : ts < U64) (hf : first < U64) :
    Calls Try.prog 10 #[entryV ts first a n c] w fun e w' => e = .returned (.tuple #[.string ⟨(encRes ts first rs).toArray⟩, .int .i64 (checkRes ts first rs)]) ∧ Below w.heap.size w w' := by
  have hb0 : Blk (w.alloc (.cells #[.int .u64 ts, .int .u64 first, .slice a n c] 27)) w.heap.size (entryCells ts first a n c) 27 := Blk.new _ _ _
  have hr1 := (Below.refl w.heap.size w).alloc (Nat.le_refl _) (.cells #[.int .u64 ts, .int .u64 first, .slice a n c] 27)
  have hra := h.on hr1
  unfold entryV
  go_enter Try.func10, Try.ntmps10
  go_upto_region 1 with fail
  generalize hw1 : w.alloc (.cells #[.int .u64 ts, .int .u64 first, .slice a n c] 27) = w1 at *
  clear hw1
  obtain ⟨b0, b1, b2⟩ := entry_load hb0
  go_wp2_with fail
  refine (rCheck_any ts first a n c rs w1 hra hr hf).mono ?_
  rintro e w2 ⟨rfl, hb2⟩
  have hb2' := hb0.on hb2
  have hra2 := hra.on hb2
  have hbel := hr1.trans (hb2.mono hr1.size)
  clear b0 b1 b2 hb0 hra hr1 hb2
  obtain ⟨c0, c1, c2⟩ := entry_load hb2'
  by_cases hch : checkRes ts first rs = 0
  · have HE := Lib.hid (show encRes ts first rs = encBytes ts first rs from if_pos hch)
    have HG := Lib.hid (check_good hch)
    have HC := Lib.hid hch
    rw [hch]
    clear hch
    have hnl := h.max
    have p1 : (Wire.putNum ts).length ≤ 10 := (Wire.put_length 9 ts).2
    have p2 : (Wire.putNum first).length ≤ 10 := (Wire.put_length 9 first).2
    have hn64 : n < U64 := by unfold U64; omega
    have hwn : IntKind.u64.wrap (n : Int) = (n : Int) := by rw [IntKind.wrap_u64]; omega
    go_wp2_with fail
    refine (qputNum_any [] ts _ (by simp) ht).mono ?_
    rintro e w3 ⟨rfl, hb3⟩
    rw [List.nil_append]
    have hB3 := hb2'.on hb3
    have hra3 := hra2.on hb3
    have hbel3 := hbel.on hb3
    clear c0 c1 c2 hb2' hra2 hbel hb3
    obtain ⟨c0, c1, c2⟩ := entry_load hB3
    go_wp2_with fail
    refine (qputNum_any (Wire.putNum ts) first _ (by omega) hf).mono ?_
    rintro e w4 ⟨rfl, hb4⟩
    have hB4 := hB3.on hb4
    have hra4 := hra3.on hb4
    have hbel4 := hbel3.on hb4
    clear c0 c1 c2 hB3 hra3 hbel3 hb4
    obtain ⟨c0, c1, c2⟩ := entry_load hB4
    go_wp2_with fail
    refine (qputNum_any (Wire.putNum ts ++ Wire.putNum first) n _ (by rw [List.length_append]; omega) hn64).mono ?_
    rintro e w5 ⟨rfl, hb5⟩
    rw [show Wire.putNum ts ++ Wire.putNum first ++ Wire.putNum n = headBytes ts first n from by simp [headBytes]]
    have hB5 := hB4.on hb5
    have hra5 := hra4.on hb5
    have hbel5 := hbel4.on hb5
    clear c0 c1 c2 hB4 hra4 hbel4 hb5 hwn p1 p2
    have hlen := h.len
    go_wp2_with fail
    go_loopw [5, 6] (fun s5 s6 wr => ∃ (i : Nat) (S : List UInt8), i ≤ n ∧ s6 = .int .i64 i ∧ s5 = .string ⟨S.toArray⟩ ∧ S = headBytes ts first n ++ opsBytes (rs.take i) ∧ Below w5.heap.size w5 wr) (fun _ s6 _ => n - (intOf s6).toNat)
    case atStart => exact ⟨0, headBytes ts first n, by omega, rfl, rfl, by simp [opsBytes], Below.refl _ _⟩
    case round =>
      obtain ⟨i, S, hi, rfl, rfl, hS, hbw⟩ := hrel
      have hall := good_all HG.out.all
      have hSl : S.length ≤ 30 + 80 * i := by
        have h1 := head_len ts first n
        have h2 := opsBytes_len (rs := rs.take i) (fun r hr => hall r (List.mem_of_mem_take hr))
        have h3 : (rs.take i).length ≤ i := List.length_take_le _ _
        rw [hS, List.length_append]; omega
      have hn6 : n ≤ 6 := by have := HG.out.len; omega
      have HS := Lib.hid hS
      have HLen := Lib.hid hlen
      clear hS
      have hBw := hB5.on hbw
      have hbelw := hbel5.on hbw
      by_cases hlt : i < n
      · obtain ⟨x, g, o, hx, hm, rfl, e0, e1, e2, e3⟩ := hra5.row hbw hlt
        have hg : g < wr.heap.size := by
          obtain ⟨g', o', e, hg, _⟩ := (hra5.on hbw).at_ (by omega)
          cases e
          exact hg
        obtain ⟨hk16, hv24, _, _⟩ := may_zero (hall x hm)
        have HN := Lib.hid (show S ++ opBytes x = headBytes ts first n ++ opsBytes (rs.take (i + 1)) by
          rw [HS.out, List.take_add_one, hx, Option.toList_some, opsBytes_snoc, List.append_assoc])
        clear hx hm hlen hall
        have p1 := (Wire.put_length 9 x.key.length).2
        have p2 : (Wire.putText x.key).length ≤ 26 := by unfold Wire.putText Wire.putNum; rw [List.length_append]; omega
        have p3 : (Wire.putNum (bitN x.del)).length ≤ 10 := (Wire.put_length 9 _).2
        have hbit : bitN x.del < U64 := by cases x.del <;> decide
        obtain ⟨f0, f1, f2⟩ := entry_load hBw
        clear f0 f1
        go_wp2_with fail
        refine (qputText_any S x.key _ (by omega)).mono ?_
        rintro e w6 ⟨rfl, hb6⟩
        have hB6 := hBw.on hb6
        have hbw6 := hbw.on hb6
        have g2 : w6.cell? ⟨g, o + i * 4 + 2, none⟩ = some (.bool x.del) := (hb6.cell (p := ⟨g, o + i * 4 + 2, none⟩) hg).trans e2
        have g3 : w6.cell? ⟨g, o + i * 4 + 3, none⟩ = some (.string ⟨x.val.toArray⟩) := (hb6.cell (p := ⟨g, o + i * 4 + 3, none⟩) hg).trans e3
        have hg6 : g < w6.heap.size := Nat.lt_of_lt_of_le hg hb6.size
        clear e0 e1 e2 e3 f2 hb6 hBw
        obtain ⟨f0, f1, f2⟩ := entry_load hB6
        clear f0 f1
        go_wp2_with fail
        refine (rBit_any x.del _).mono ?_
        rintro e w7 ⟨rfl, rfl⟩
        go_wp2_with fail
        refine (qputNum_any _ (bitN x.del) _ ?_ hbit).mono ?_
        · simp only [List.length_append]; omega
        rintro e w7 ⟨rfl, hb7⟩
        have hB7 := hB6.on hb7
        have hbw7 := hbw6.on hb7
        have g3' : w7.cell? ⟨g, o + i * 4 + 3, none⟩ = some (.string ⟨x.val.toArray⟩) := (hb7.cell (p := ⟨g, o + i * 4 + 3, none⟩) hg6).trans g3
        clear g2 g3 f2 hb7 hB6 hbw6
        obtain ⟨f0, f1, f2⟩ := entry_load hB7
        clear f0 f1
        go_wp2_with fail
        refine (qputText_any _ x.val _ ?_).mono ?_
        · simp only [List.length_append]; omega
        rintro e w8 ⟨rfl, hb8⟩
        have hbw8 := hbw7.on hb8
        clear p1 p2 p3 f2 g3' hb8 hB7 hbw7
        go_wp2_with fail
        go_roundw
        case rel => exact ⟨i + 1, _, by omega, by go_num, rfl, by rw [← HN.out]; simp [opBytes], hbw8⟩
        case measure => simp [intOf]; omega
      · obtain rfl : i = n := by omega
        have hSb : S = bodyBytes ts first rs := by
          rw [HS.out, List.take_of_length_le (by omega)]; unfold bodyBytes; rw [hlen]
        subst hSb
        have hs4 := seal_length (bodyBytes ts first rs)
        obtain ⟨f0, f1, f2⟩ := entry_load hBw
        clear hall f0 f1
        go_wp2_with fail
        refine (refSeal_any _ _ (by unfold maxLen; omega)).mono ?_
        rintro e w6 ⟨rfl, hb6⟩
        go_wp2_with fail
        refine (qputText_any [] _ _ (by simp; omega)).mono ?_
        rintro e w7 ⟨rfl, hb7⟩
        go_wp2_with fail
        go_ret2
        rw [HE.out, HC.out]
        exact ⟨rfl, (hbelw.on hb6).on hb7⟩
  · have HE := Lib.hid (show encRes ts first rs = [] from if_neg hch)
    have hne : (((checkRes ts first rs : Nat) : Int) != 0) = true := by simp; omega
    go_wp2_with fail
    go_ret2
    rw [HE.out]
    exact ⟨rfl, hbel⟩
end Go.Proofs.Ytjlhkmkjegamdaa
