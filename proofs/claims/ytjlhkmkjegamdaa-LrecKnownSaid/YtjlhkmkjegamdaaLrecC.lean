/-
  The walks of package lrec's checks of an entry. Condition: sizes that a machine has.
-/
import Derived.Test.YtjlhkmkjegamdaaLrecW
import Derived.Test.YtjlhkmkjegamdaaMap
namespace Go.Proofs.Ytjlhkmkjegamdaa
set_option linter.unusedVariables false
set_option linter.unusedSimpArgs false
open Go.RowKit

set_option maxHeartbeats 400000 in
theorem stamp_any (n : Nat) (w : World) :
    Calls Try.prog 47 #[.int .u64 n] w fun e w' => e = .returned (.bool (stampB n)) ∧ w = w' := by
  have hs : stampB n = (decide (1 ≤ n) && decide (n ≤ 1099511627776)) := rfl
  by_cases h1 : 1 ≤ n
  · by_cases h2 : n ≤ 1099511627776
    · have HS := Lib.hid (show stampB n = true by rw [hs]; simp [h1, h2])
      clear hs
      go_enter Try.func47, Try.ntmps47
      go_wp2_with fail
      go_ret
      rw [HS.out]
      refine ⟨ret_bool ?_, rfl⟩
      simp; omega
    · have HS := Lib.hid (show stampB n = false by rw [hs]; simp [h2])
      clear hs
      go_enter Try.func47, Try.ntmps47
      go_wp2_with fail
      go_ret
      rw [HS.out]
      refine ⟨ret_bool ?_, rfl⟩
      simp; omega
  · have HS := Lib.hid (show stampB n = false by rw [hs]; simp [h1])
    clear hs
    go_enter Try.func47, Try.ntmps47
    go_wp2_with fail
    go_ret
    rw [HS.out]
    exact ⟨rfl, rfl⟩

set_option maxHeartbeats 1000000 in
theorem short_any (ts first : Nat) (a : Option Addr) (n c : Nat) (rs : List Rec) (w : World) (h : RecsAt w a n c rs) (hr : ∀ r ∈ rs, r.ok) :
    Calls Try.prog 33 #[entryV ts first a n c] w fun e w' => e = .returned (.int .i64 (shortRes rs)) ∧ Below w.heap.size w w' := by
  have hn := h.max
  have hbx : Blk (w.alloc (.cells #[.int .u64 ts, .int .u64 first, .slice a n c] 27)) w.heap.size (entryCells ts first a n c) 27 := Blk.new _ _ _
  have hb1 := (Below.refl w.heap.size w).alloc (Nat.le_refl _) (.cells #[.int .u64 ts, .int .u64 first, .slice a n c] 27)
  have hr1 := h.on hb1
  unfold entryV
  go_enter Try.func33, Try.ntmps33
  go_wp2_with fail
  generalize hw1 : w.alloc (.cells #[.int .u64 ts, .int .u64 first, .slice a n c] 27) = w1 at *
  have hsz : w1.heap.size = w.heap.size + 1 := by rw [← hw1]; simp
  have Hsz := Lib.hid hsz
  clear hw1 hsz
  go_loopw [4, 8] (fun _ s8 wr => ∃ i : Nat, i ≤ n ∧ s8 = .int .i64 i ∧ Below w1.heap.size w1 wr ∧ (rs.take i).any (fun x => may x == 3) = false) (fun _ s8 _ => n - (intOf s8).toNat)
  case atStart => exact ⟨0, by omega, rfl, Below.refl _ _, by simp⟩
  case round =>
    obtain ⟨i, hi, rfl, hbw, hall⟩ := hrel
    have HA := Lib.hid hall
    clear hall
    by_cases hlt : i < n
    · obtain ⟨x, g, o, hx, hm, rfl, d0, d1, d2, d3⟩ := hr1.row hbw hlt
      have hok := hr x hm
      have HX := Lib.hid hx
      clear hx hm
      go_wp2_with fail
      refine (may_any x _ hok).mono ?_
      rintro e w2 ⟨rfl, hb2⟩
      have hb3 := hbw.on ((below_one (Below.refl _ _) (.cells #[.string ⟨x.key.toArray⟩, .int .u64 x.lsn, .bool x.del, .string ⟨x.val.toArray⟩] 24)).on hb2)
      by_cases h3 : may x = 3
      · have HR := Lib.hid (show shortRes rs = 3 by
          unfold shortRes
          rw [if_pos (List.any_eq_true.2 ⟨x, List.mem_of_getElem? HX.out, by simp [h3]⟩)])
        rw [h3]
        clear h3
        go_wp2_with fail
        go_ret
        rw [HR.out]
        exact ⟨rfl, hb1.on hb3⟩
      · have hne : ((may x : Nat) : Int) == 3 ↔ False := by simp; omega
        have hne2 : (((may x : Nat) : Int) == 3) = false := by rw [beq_eq_false_iff_ne]; omega
        have HN := Lib.hid (show (rs.take (i + 1)).any (fun x => may x == 3) = false by
          rw [List.take_add_one, List.any_append, HA.out, HX.out]; simp [h3])
        clear hne h3
        go_wp2_with fail
        go_roundw
        case rel => exact ⟨i + 1, by omega, by go_num, hb3, HN.out⟩
        case measure => simp [intOf]; omega
    · obtain rfl : i = n := by omega
      have hbx2 := hbx.on hbw
      have h2 : wr.cell? ⟨w.heap.size, 2, none⟩ = some (.slice a i c) := by rw [hbx2.cell]; rfl
      have HR : rs.any (fun x => may x == 3) = false := by
        have := HA.out
        rwa [List.take_of_length_le (by rw [h.len]; exact Nat.le_refl _)] at this
      have hlen := h.len
      by_cases h6 : i ≤ 6
      · have HS := Lib.hid (show shortRes rs = 0 by unfold shortRes; rw [if_neg (by rw [HR]; simp), if_pos (by omega)])
        have hd : decide ((i : Int) ≤ 6) = true := by simp; omega
        clear HR hlen
        go_wp2_with fail
        refine (unless_any _ _ _).mono ?_
        rintro e w2 ⟨rfl, rfl⟩
        go_wp2_with fail
        go_ret
        rw [HS.out]
        exact ⟨rfl, hb1.on hbw⟩
      · have HS := Lib.hid (show shortRes rs = 3 by unfold shortRes; rw [if_neg (by rw [HR]; simp), if_neg (by omega)])
        have hd : decide ((i : Int) ≤ 6) = false := by simp; omega
        clear HR hlen
        go_wp2_with fail
        refine (unless_any _ _ _).mono ?_
        rintro e w2 ⟨rfl, rfl⟩
        go_wp2_with fail
        go_ret
        rw [HS.out]
        exact ⟨rfl, hb1.on hbw⟩

theorem good_bad (ts : Nat) {first i : Nat} {seen : List (List UInt8)} {x : Rec} {rs : List Rec} (hx : rs[i]? = some x) (hg : goodFrom first 0 [] rs = goodFrom first i seen (rs.drop i)) (hb : goodOp first i seen x = false) : madeRes ts first rs = 2 := by
  have e : rs.drop i = x :: rs.drop (i + 1) := by
    obtain ⟨hl, rfl⟩ := List.getElem?_eq_some_iff.1 hx
    exact List.drop_eq_getElem_cons hl
  unfold madeRes
  rw [hg, e, goodFrom, hb]
  simp
theorem good_next {first i : Nat} {seen : List (List UInt8)} {x : Rec} {rs : List Rec} (hx : rs[i]? = some x) (hg : goodFrom first 0 [] rs = goodFrom first i seen (rs.drop i)) (hb : goodOp first i seen x = true) :
    goodFrom first 0 [] rs = goodFrom first (i + 1) (x.key :: seen) (rs.drop (i + 1)) := by
  have e : rs.drop i = x :: rs.drop (i + 1) := by
    obtain ⟨hl, rfl⟩ := List.getElem?_eq_some_iff.1 hx
    exact List.drop_eq_getElem_cons hl
  rw [hg, e, goodFrom, hb, Bool.true_and]

theorem wrap_add (a b : Nat) : IntKind.u64.wrap ((a : Int) + (b : Int)) = (((a + b) % U64 : Nat) : Int) := by
  rw [IntKind.wrap_u64]; unfold U64; omega

set_option maxHeartbeats 1000000 in
theorem made_any (ts first : Nat) (a : Option Addr) (n c : Nat) (rs : List Rec) (w : World) (h : RecsAt w a n c rs) (hr : ∀ r ∈ rs, r.ok) (hf : first < U64) :
    Calls Try.prog 35 #[entryV ts first a n c] w fun e w' => e = .returned (.int .i64 (madeRes ts first rs)) ∧ Below w.heap.size w w' := by
  have hn := h.max
  have hbx : Blk (w.alloc (.cells #[.int .u64 ts, .int .u64 first, .slice a n c] 27)) w.heap.size (entryCells ts first a n c) 27 := Blk.new _ _ _
  have hb1 := (Below.refl w.heap.size w).alloc (Nat.le_refl _) (.cells #[.int .u64 ts, .int .u64 first, .slice a n c] 27)
  have hr1 := h.on hb1
  have hmm := @run_makeMap Try.prog
  unfold entryV
  go_enter Try.func35, Try.ntmps35
  go_wp2_with fail
  have hk0 := KMap.made (w.alloc (.cells #[.int .u64 ts, .int .u64 first, .slice a n c] 27))
  have hbx1 := hbx.alloc (.map #[] 0)
  have hb2 := below_one hb1 (.map #[] 0)
  have hr2 := hr1.on (below_one (Below.refl _ _) (.map #[] 0))
  have hsz : (w.alloc (.cells #[.int .u64 ts, .int .u64 first, .slice a n c] 27)).heap.size = w.heap.size + 1 := by simp
  rw [hsz] at hk0
  have HM := Lib.hid (show w.heap.size < w.heap.size + 1 from Nat.lt_succ_self _)
  generalize w.heap.size + 1 = M at *
  generalize (w.alloc (.cells #[.int .u64 ts, .int .u64 first, .slice a n c] 27)).alloc (.map #[] 0) = w2 at *
  clear hsz hmm hbx hb1 hr1
  go_loopw [4, 5, 10] (fun _ _ s10 wr => ∃ (i : Nat) (seen : List (List UInt8)), i ≤ n ∧ s10 = .int .i64 i ∧ Mod [M] w2 wr ∧ KMap wr M i (fun l => if l ∈ seen then 1 else 0) ∧ goodFrom first 0 [] rs = goodFrom first i seen (rs.drop i)) (fun _ _ s10 _ => n - (intOf s10).toNat)
  case atStart => exact ⟨0, [], by omega, rfl, Mod.refl _ _, hk0, rfl⟩
  case round =>
    obtain ⟨i, seen, hi, rfl, hmw, hk, hgood⟩ := hrel
    by_cases hlt : i < n
    · have hMlt := HM.out
      obtain ⟨x, g, o, hx, hm, rfl, d0, d1, d2, d3⟩ := hr2.rowMod hmw (h.old (by omega)) (by simp; omega) hlt
      have hok := hr x hm
      have HX := Lib.hid hx
      have HG := Lib.hid hgood
      clear hx hm hgood
      have hbe := hbx1.mod hmw (by simp; omega)
      go_wp2_with fail
      refine (may_any x _ hok).mono ?_
      rintro e w3 ⟨rfl, hb3⟩
      have hbel3 := (below_one (Below.refl _ _) (.cells #[.string ⟨x.key.toArray⟩, .int .u64 x.lsn, .bool x.del, .string ⟨x.val.toArray⟩] 24)).on hb3
      have hx3 : Blk w3 wr.heap.size (recCells x) 24 := (Blk.new wr (recCells x) 24).on hb3
      have hbe3 := hbe.on hbel3
      have hk3 := hk.on hbel3
      have hm3 := hmw.thenBelow hbel3
      have x0 : w3.cell? ⟨wr.heap.size, 0, none⟩ = some (.string ⟨x.key.toArray⟩) := by rw [hx3.cell]; rfl
      have x1 : w3.cell? ⟨wr.heap.size, 1, none⟩ = some (.int .u64 x.lsn) := by rw [hx3.cell]; rfl
      have e1 : w3.cell? ⟨w.heap.size, 1, none⟩ = some (.int .u64 first) := by rw [hbe3.cell]; rfl
      have hfin : Below w.heap.size w w3 := Mod.fresh hb2 hm3 (by simp; omega)
      clear hb3 hbel3 hbe d0 d1 d2 d3 hbe3 hx3
      by_cases hm0 : may x = 0
      · rw [hm0]
        have hwr := wrap_add first i
        by_cases hB : x.lsn = (first + i) % U64
        · have hw : IntKind.u64.wrap ((first : Int) + (i : Int)) = (x.lsn : Int) := by rw [hwr, hB]
          by_cases hC : stampB x.lsn = true
          · have hlook := hk3.look x.key (by have := hok.key; unfold maxLen; omega)
            by_cases hD : x.key ∈ seen
            · have HR := Lib.hid (good_bad ts HX.out HG.out (by simp [goodOp, hD]))
              rw [if_pos hD] at hlook
              clear hm0 hB hwr
              go_wp2_with fail
              refine (stamp_any _ _).mono ?_
              rw [hC]
              rintro e w4 ⟨rfl, rfl⟩
              clear hC
              go_wp2_with fail
              go_ret
              rw [HR.out]
              exact ⟨rfl, hfin⟩
            · have HN := Lib.hid (good_next HX.out HG.out (by simp [goodOp, hD, hm0, hB, hC]; rw [← hB]; exact hC))
              rw [if_neg hD] at hlook
              obtain ⟨w5, hst, hk5, hm5⟩ := hk3.store x.key (by have := hok.key; unfold maxLen; omega) (by unfold maxLen; omega) 1 (by decide)
              have hk6 : KMap w5 M (i + 1) (fun l => if l ∈ x.key :: seen then 1 else 0) := by
                obtain ⟨D, h1, h2, h3⟩ := hk5
                refine ⟨D, h1, h2, fun l => ?_⟩
                rw [h3 l]
                by_cases hl : l = x.key <;> simp [hl]
              clear hm0 hB hwr hk5
              go_wp2_with fail
              refine (stamp_any _ _).mono ?_
              rw [hC]
              rintro e w4 ⟨rfl, rfl⟩
              clear hC
              go_wp2_with fail
              go_roundw
              case rel => exact ⟨i + 1, x.key :: seen, by omega, by go_num, hm3.trans hm5, hk6, HN.out⟩
              case measure => simp [intOf]; omega
          · have hC' : stampB x.lsn = false := by simpa using hC
            have HR := Lib.hid (good_bad ts HX.out HG.out (by simp [goodOp, hC']))
            clear hm0 hB hwr hC
            go_wp2_with fail
            refine (stamp_any _ _).mono ?_
            rw [hC']
            rintro e w4 ⟨rfl, rfl⟩
            clear hC'
            go_wp2_with fail
            go_ret
            rw [HR.out]
            exact ⟨rfl, hfin⟩
        · have HR := Lib.hid (good_bad ts HX.out HG.out (by simp [goodOp, hB]))
          generalize (first + i) % U64 = S at *
          have hq : ((x.lsn : Int) == (S : Int)) = false := by rw [beq_eq_false_iff_ne]; omega
          clear hm0
          go_wp2_with fail
          go_ret
          rw [HR.out]
          exact ⟨rfl, hfin⟩
      · have hne : (((may x : Nat) : Int) == 0) = false := by rw [beq_eq_false_iff_ne]; omega
        have HR := Lib.hid (good_bad ts HX.out HG.out (by simp [goodOp, hm0]))
        go_wp2_with fail
        go_ret
        rw [HR.out]
        exact ⟨rfl, hfin⟩
    · obtain rfl : i = n := by omega
      have hMlt := HM.out
      have hlen := h.len
      have hbe := hbx1.mod hmw (by simp; omega)
      have g0 : wr.cell? ⟨w.heap.size, 0, none⟩ = some (.int .u64 ts) := by rw [hbe.cell]; rfl
      have g1 : wr.cell? ⟨w.heap.size, 1, none⟩ = some (.int .u64 first) := by rw [hbe.cell]; rfl
      have g2 : wr.cell? ⟨w.heap.size, 2, none⟩ = some (.slice a i c) := by rw [hbe.cell]; rfl
      have hfin : Below w.heap.size w wr := Mod.fresh hb2 hmw (by simp; omega)
      have hg1 : goodFrom first 0 [] rs = true := by rw [hgood, List.drop_of_length_le (by omega)]; rfl
      have hmr : madeRes ts first rs = if decide (0 < i) && stampB ts && stampB first then 0 else 2 := by unfold madeRes; rw [hg1, hlen]; rfl
      clear hgood hg1 hlen hbe hmw hk
      by_cases h0 : 0 < i
      · by_cases hS : stampB ts = true
        · have HF := Lib.hid (show madeRes ts first rs = if stampB first then 0 else 2 by rw [hmr]; simp [h0, hS])
          clear hmr
          go_wp2_with fail
          refine (stamp_any _ _).mono ?_
          rw [hS]
          rintro e w4 ⟨rfl, rfl⟩
          clear hS
          go_wp2_with fail
          refine (stamp_any _ _).mono ?_
          generalize hSf : stampB first = sb at *
          have HSf := Lib.hid hSf
          clear hSf
          rintro e w4 ⟨rfl, rfl⟩
          go_wp2_with fail
          refine (unless_any _ _ _).mono ?_
          rintro e w4 ⟨rfl, rfl⟩
          go_wp2_with fail
          go_ret
          rw [HF.out]
          refine ⟨ret_int ?_, hfin⟩
          cases sb <;> rfl
        · have hS' : stampB ts = false := by simpa using hS
          have HF := Lib.hid (show madeRes ts first rs = 2 by rw [hmr]; simp [hS'])
          clear hmr hS
          go_wp2_with fail
          refine (stamp_any _ _).mono ?_
          rw [hS']
          rintro e w4 ⟨rfl, rfl⟩
          clear hS'
          go_wp2_with fail
          refine (unless_any _ _ _).mono ?_
          rintro e w4 ⟨rfl, rfl⟩
          go_wp2_with fail
          go_ret
          rw [HF.out]
          exact ⟨rfl, hfin⟩
      · have HF := Lib.hid (show madeRes ts first rs = 2 by rw [hmr]; simp [h0])
        clear hmr
        go_wp2_with fail
        refine (unless_any _ _ _).mono ?_
        rintro e w4 ⟨rfl, rfl⟩
        go_wp2_with fail
        go_ret
        rw [HF.out]
        exact ⟨rfl, hfin⟩

theorem entry_load {w : World} {b ts first n c : Nat} {a : Option Addr} (h : Blk w b (entryCells ts first a n c) 27) :
    w.cell? ⟨b, 0, none⟩ = some (.int .u64 ts) ∧ w.cell? ⟨b, 1, none⟩ = some (.int .u64 first) ∧ w.cell? ⟨b, 2, none⟩ = some (.slice a n c) := by
  refine ⟨?_, ?_, ?_⟩ <;> (rw [h.cell]; rfl)

set_option maxHeartbeats 400000 in
theorem check1_any (b ts first : Nat) (a : Option Addr) (n c : Nat) (rs : List Rec) (w : World) (hb : Blk w b (entryCells ts first a n c) 27) (h : RecsAt w a n c rs) (hr : ∀ r ∈ rs, r.ok) :
    Calls Try.prog 32 #[.pointer (some ⟨b, 0, none⟩)] w fun e w' => e = .returned (.int .i64 (shortRes rs)) ∧ Below w.heap.size w w' := by
  obtain ⟨h0, h1, h2⟩ := entry_load hb
  go_enter Try.func32, Try.ntmps32
  go_wp2_with fail
  refine (short_any ts first a n c rs _ h hr).mono ?_
  rintro e w1 ⟨rfl, hb1⟩
  go_wp2_with fail
  go_ret
  exact ⟨rfl, hb1⟩
set_option maxHeartbeats 400000 in
theorem check2_any (b ts first : Nat) (a : Option Addr) (n c : Nat) (rs : List Rec) (w : World) (hb : Blk w b (entryCells ts first a n c) 27) (h : RecsAt w a n c rs) (hr : ∀ r ∈ rs, r.ok) (hf : first < U64) :
    Calls Try.prog 34 #[.pointer (some ⟨b, 0, none⟩)] w fun e w' => e = .returned (.int .i64 (madeRes ts first rs)) ∧ Below w.heap.size w w' := by
  obtain ⟨h0, h1, h2⟩ := entry_load hb
  go_enter Try.func34, Try.ntmps34
  go_wp2_with fail
  refine (made_any ts first a n c rs _ h hr hf).mono ?_
  rintro e w1 ⟨rfl, hb1⟩
  go_wp2_with fail
  go_ret
  exact ⟨rfl, hb1⟩

set_option maxHeartbeats 400000 in
theorem check_any (ts first : Nat) (a : Option Addr) (n c : Nat) (rs : List Rec) (w : World) (h : RecsAt w a n c rs) (hr : ∀ r ∈ rs, r.ok) (hf : first < U64) :
    Calls Try.prog 13 #[entryV ts first a n c] w fun e w' => e = .returned (.int .i64 (checkRes ts first rs)) ∧ Below w.heap.size w w' := by
  have hb0 : Blk (w.alloc (.cells #[.int .u64 ts, .int .u64 first, .slice a n c] 27)) w.heap.size (entryCells ts first a n c) 27 := Blk.new _ _ _
  have hr1 := (Below.refl w.heap.size w).alloc (Nat.le_refl _) (.cells #[.int .u64 ts, .int .u64 first, .slice a n c] 27)
  have hra := h.on hr1
  unfold entryV
  go_enter Try.func13, Try.ntmps13
  go_wp2_with fail
  generalize hw1 : w.alloc (.cells #[.int .u64 ts, .int .u64 first, .slice a n c] 27) = w1 at *
  have hsz : w1.heap.size = w.heap.size + 1 := by rw [← hw1]; simp
  clear hw1
  rw [← hsz]
  refine (first_check w1.heap.size #[.pointer (some ⟨w.heap.size, 0, none⟩)] #[.pointer (some ⟨w.heap.size, 0, none⟩)] (shortRes rs) (madeRes ts first rs) _ ?_ ?_ ?_ ?_ ?_).mono ?_
  · simp
  · rw [World.cell?_alloc_new]; rfl
  · rw [World.cell?_alloc_new]; rfl
  · intro w' hb
    exact check1_any w.heap.size ts first a n c rs w' ((hb0.alloc _).on hb) ((hra.on (below_one (Below.refl _ _) _)).on hb) hr
  · intro w' hb
    exact check2_any w.heap.size ts first a n c rs w' ((hb0.alloc _).on hb) ((hra.on (below_one (Below.refl _ _) _)).on hb) hr hf
  rintro e w2 ⟨rfl, hb⟩
  go_wp2_with fail
  go_ret
  refine ⟨ret_int ?_, hr1.trans ((below_one (Below.refl _ _) _).on hb |>.mono (by omega))⟩
  unfold checkRes pick2
  split <;> split <;> simp_all
end Go.Proofs.Ytjlhkmkjegamdaa
