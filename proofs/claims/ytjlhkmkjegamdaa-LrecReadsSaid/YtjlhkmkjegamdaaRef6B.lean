/-
  The walks of the document's Check and Encode of layer 6. Condition: sizes that a machine has.
-/
import Derived.Test.YtjlhkmkjegamdaaRef6A
namespace Go.Proofs.Ytjlhkmkjegamdaa
set_option linter.unusedVariables false
set_option linter.unusedSimpArgs false
open Go.RowKit

/-- What is told so far: an error of the argument, or none. -/
def outV (b : Bool) : Int := if b then 2 else 0
theorem outV_or (b : Bool) : outV (b || true) = 2 := by simp [outV]
def hdrBad (ts first n : Nat) : Bool := n == 0 || !stampB ts || !stampB first
def opBad (first i : Nat) (x : Rec) : Bool := may x != 0 || !stampB x.lsn || decide (1099511627776 < first) || x.lsn != (first + i) % U64
def keyIn (rs : List Rec) (k : Nat) (x : Rec) : Bool := (rs.take k).any fun r => r.key == x.key
/-- What is known behind i operations. -/
structure Told (ts first : Nat) (rs : List Rec) (i : Nat) (bad : Bool) : Prop where
  long : ∀ r ∈ rs.take i, may r ≠ 3
  isBad : bad = true → madeRes ts first rs = 2
  isGood : bad = false → hdrBad ts first rs.length = false ∧ goodFrom first 0 [] rs = goodFrom first i ((rs.take i).map (·.key)).reverse (rs.drop i)
theorem hdr_made {ts first : Nat} {rs : List Rec} (h : hdrBad ts first rs.length = true) : madeRes ts first rs = 2 := by
  unfold madeRes
  unfold hdrBad at h
  rw [if_neg]
  intro h2
  simp only [Bool.and_eq_true, decide_eq_true_eq] at h2
  simp [h2.1.2, h2.2] at h
  have := h2.1.1.2
  rw [h] at this
  simp at this
theorem Told.start (ts first : Nat) (rs : List Rec) : Told ts first rs 0 (hdrBad ts first rs.length) :=
  ⟨by simp, hdr_made, fun h => ⟨h, rfl⟩⟩
theorem Told.next {ts first : Nat} {rs : List Rec} {i : Nat} {bad : Bool} {x : Rec} (h : Told ts first rs i bad) (hx : rs[i]? = some x) (h3 : may x ≠ 3) : Told ts first rs (i + 1) (bad || opBad first i x || keyIn rs i x) := by
  have ht : rs.take (i + 1) = rs.take i ++ [x] := by rw [List.take_add_one, hx]; rfl
  refine ⟨fun r hr => ?_, fun hb => ?_, fun hb => ?_⟩
  · rw [ht, List.mem_append, List.mem_singleton] at hr
    rcases hr with hr | rfl
    · exact h.long r hr
    · exact h3
  · cases hbad : bad with
    | true => exact h.isBad hbad
    | false =>
      obtain ⟨h1, h2⟩ := h.isGood hbad
      by_cases hf : 1099511627776 < first
      · apply hdr_made
        unfold hdrBad
        have : stampB first = false := by unfold stampB; simp; omega
        rw [this]; simp
      · refine good_bad ts hx h2 ?_
        rw [hbad, Bool.false_or] at hb
        unfold goodOp
        cases hk : keyIn rs i x with
        | true =>
          have : (((rs.take i).map (·.key)).reverse.contains x.key) = true := by
            unfold keyIn at hk
            rw [List.any_eq_true] at hk
            obtain ⟨r, hr, he⟩ := hk
            rw [List.contains_iff_mem, List.mem_reverse, List.mem_map]
            exact ⟨r, hr, by simpa using he⟩
          rw [this]; simp
        | false =>
          rw [hk, Bool.or_false] at hb
          unfold opBad at hb
          simp only [Bool.or_eq_true, bne_iff_ne, ne_eq, Bool.not_eq_true', decide_eq_true_eq] at hb
          rcases hb with ((hb | hb) | hb) | hb
          · simp [hb]
          · simp [hb]
          · exact absurd hb hf
          · simp [hb]
  · simp only [Bool.or_eq_false_iff] at hb
    obtain ⟨⟨hb1, hb2⟩, hb3⟩ := hb
    obtain ⟨h1, h2⟩ := h.isGood hb1
    refine ⟨h1, ?_⟩
    have hop : goodOp first i ((rs.take i).map (·.key)).reverse x = true := by
      unfold opBad at hb2
      simp only [Bool.or_eq_false_iff, bne_eq_false_iff_eq, Bool.not_eq_false', decide_eq_false_iff_not] at hb2
      unfold goodOp
      have : (((rs.take i).map (·.key)).reverse.contains x.key) = false := by
        rw [Bool.eq_false_iff]
        intro hc
        rw [List.contains_iff_mem, List.mem_reverse, List.mem_map] at hc
        obtain ⟨r, hr, he⟩ := hc
        unfold keyIn at hb3
        rw [List.any_eq_false] at hb3
        exact hb3 r hr (by simpa using he)
      rw [this]
      simp [hb2.1.1.1, hb2.1.1.2, hb2.2]
      have := hb2.1.1.2
      rw [hb2.2] at this
      exact this
    rw [good_next hx h2 hop, ht, List.map_append, List.reverse_append]
    rfl
theorem Told.over {ts first : Nat} {rs : List Rec} {i : Nat} {x : Rec} (hx : rs[i]? = some x) (h3 : may x = 3) : checkRes ts first rs = 3 := by
  have : shortRes rs = 3 := by
    unfold shortRes
    rw [if_pos (List.any_eq_true.2 ⟨x, List.mem_of_getElem? hx, by simp [h3]⟩)]
  unfold checkRes
  rw [this]; rfl
theorem Told.done {ts first : Nat} {rs : List Rec} {n : Nat} {bad : Bool} (h : Told ts first rs n bad) (hn : rs.length = n) (h6 : n ≤ 6) : (checkRes ts first rs : Int) = outV bad := by
  have hs : shortRes rs = 0 := by
    unfold shortRes
    rw [if_neg, if_pos (by omega)]
    rw [List.any_eq_true]
    rintro ⟨x, hx, he⟩
    refine h.long x ?_ (by simpa using he)
    rw [List.take_of_length_le (by omega)]; exact hx
  unfold checkRes
  rw [hs, if_pos rfl]
  cases hb : bad with
  | true => rw [h.isBad hb]; rfl
  | false =>
    obtain ⟨h1, h2⟩ := h.isGood hb
    have hm : madeRes ts first rs = 0 := by
      unfold madeRes
      unfold hdrBad at h1
      simp only [Bool.or_eq_false_iff, Bool.not_eq_false', beq_eq_false_iff_ne, ne_eq] at h1
      have hpos : 0 < rs.length := Nat.pos_of_ne_zero h1.1.1
      rw [h2, List.drop_of_length_le (by omega), if_pos]
      simp [goodFrom, h1.1.2, h1.2, hpos]
    rw [hm]; rfl
theorem long_check {ts first : Nat} {rs : List Rec} (h : 6 < rs.length) : checkRes ts first rs = 3 := by
  have : shortRes rs = 3 := by
    unfold shortRes
    split
    · rfl
    · rw [if_neg (by omega)]
  unfold checkRes
  rw [this]; rfl

set_option maxRecDepth 100000 in
set_option maxHeartbeats 4000000 in
theorem rCheck_any (ts first : Nat) (a : Option Addr) (n c : Nat) (rs : List Rec) (w : World) (h : RecsAt w a n c rs) (hr : ∀ r ∈ rs, r.ok) (hf : first < U64) :
    Calls Try.prog 14 #[entryV ts first a n c] w fun e w' => e = .returned (.int .i64 (checkRes ts first rs)) ∧ Below w.heap.size w w' := by
  have hn := h.max
  have hlen := h.len
  have hE0 : Blk (w.alloc (.cells #[.int .u64 ts, .int .u64 first, .slice a n c] 27)) w.heap.size (entryCells ts first a n c) 27 := Blk.new _ _ _
  have hb0 := (Below.refl w.heap.size w).alloc (Nat.le_refl _) (.cells #[.int .u64 ts, .int .u64 first, .slice a n c] 27)
  have hr0 := h.on hb0
  unfold entryV
  go_enter Try.func14, Try.ntmps14
  go_upto_region 1 with fail
  generalize w.alloc (.cells #[.int .u64 ts, .int .u64 first, .slice a n c] 27) = w1 at *
  obtain ⟨e0, e1, e2⟩ := entry_load hE0
  by_cases h6 : 6 < n
  · have hd : decide ((n : Int) > 6) = true := by simp; omega
    have HC := Lib.hid (long_check (ts := ts) (first := first) (rs := rs) (by omega))
    clear hlen
    go_wp2_with fail
    go_ret
    rw [HC.out]
    exact ⟨rfl, hb0⟩
  · have hd : decide ((n : Int) > 6) = false := by simp; omega
    have HL := Lib.hid hlen
    clear hlen
    go_upto_region 4 with fail
    clear hd
    go_cut [27] (fun s27 wx => s27 = .bool (hdrBad ts first n) ∧ w1 = wx)
    case first =>
      by_cases hn0 : n = 0
      · have hnb : ((n : Int) == 0) = true := by simp [hn0]
        have HH := Lib.hid (show hdrBad ts first n = true by simp [hdrBad, hn0])
        clear hn0
        go_wp2_with fail
        go_meet
        exact ⟨by rw [HH.out], rfl⟩
      · have hnb : ((n : Int) == 0) = false := by simp [hn0]
        by_cases hts : stampB ts = true
        · by_cases hfs : stampB first = true
          · have HH := Lib.hid (show hdrBad ts first n = false by simp [hdrBad, hn0, hts, hfs])
            clear hn0
            go_wp2_with fail
            refine (rStamp_any _ _).mono ?_
            rw [hts]
            rintro e wy ⟨rfl, rfl⟩
            clear hts
            go_wp2_with fail
            refine (rStamp_any _ _).mono ?_
            rw [hfs]
            rintro e wy ⟨rfl, rfl⟩
            clear hfs
            go_wp2_with fail
            go_meet
            exact ⟨by rw [HH.out], rfl⟩
          · have hfs' : stampB first = false := by simpa using hfs
            have HH := Lib.hid (show hdrBad ts first n = true by simp [hdrBad, hn0, hts, hfs'])
            clear hn0 hfs
            go_wp2_with fail
            refine (rStamp_any _ _).mono ?_
            rw [hts]
            rintro e wy ⟨rfl, rfl⟩
            clear hts
            go_wp2_with fail
            refine (rStamp_any _ _).mono ?_
            rw [hfs']
            rintro e wy ⟨rfl, rfl⟩
            clear hfs'
            go_wp2_with fail
            go_meet
            exact ⟨by rw [HH.out], rfl⟩
        · have hts' : stampB ts = false := by simpa using hts
          have HH := Lib.hid (show hdrBad ts first n = true by simp [hdrBad, hn0, hts'])
          clear hn0 hts
          go_wp2_with fail
          refine (rStamp_any _ _).mono ?_
          rw [hts']
          rintro e wy ⟨rfl, rfl⟩
          clear hts'
          go_wp2_with fail
          go_meet
          exact ⟨by rw [HH.out], rfl⟩
    case rest =>
      obtain ⟨rfl, rfl⟩ := hcut
      go_upto_if 27 with fail
      go_cut [3] (fun s3 wx => s3 = .int .i64 (outV (hdrBad ts first n)) ∧ w1 = wx)
      case first =>
        cases hH : hdrBad ts first n
        all_goals
          have HH := Lib.hid hH
          clear hH
          go_wp2_with fail
          go_meet
          exact ⟨by rw [HH.out]; rfl, rfl⟩
      case rest =>
      obtain ⟨rfl, rfl⟩ := hcut
      go_wp2_with fail
      go_loopw [3, 4, 5, 6, 7] (fun s3 s4 _ _ _ wr => ∃ (i : Nat) (bad : Bool), i ≤ n ∧ s4 = .int .i64 i ∧ s3 = .int .i64 (outV bad) ∧ Below w1.heap.size w1 wr ∧ Told ts first rs i bad) (fun _ s4 _ _ _ _ => n - (intOf s4).toNat)
      case atStart => exact ⟨0, hdrBad ts first n, by omega, rfl, rfl, Below.refl _ _, HL.out ▸ Told.start ts first rs⟩
      case round =>
        obtain ⟨i, bad, hi, rfl, rfl, hbw, htold⟩ := hrel
        have hEw := hE0.on hbw
        have hbelw := hb0.on hbw
        obtain ⟨f0, f1, f2⟩ := entry_load hEw
        clear e0 e1 e2
        by_cases hlt : i < n
        · obtain ⟨x, g, o, hx, hm, rfl, d0, d1, d2, d3⟩ := hr0.row hbw hlt
          have hok := hr x hm
          have HX := Lib.hid hx
          have HT := Lib.hid htold
          clear hx hm htold
          go_upto_region 10 with fail
          have hX : Blk (wr.alloc (.cells #[.string ⟨x.key.toArray⟩, .int .u64 x.lsn, .bool x.del, .string ⟨x.val.toArray⟩] 24)) wr.heap.size (recCells x) 24 := Blk.new wr (recCells x) _
          have hbx := (Below.refl wr.heap.size wr).alloc (Nat.le_refl _) (.cells #[.string ⟨x.key.toArray⟩, .int .u64 x.lsn, .bool x.del, .string ⟨x.val.toArray⟩] 24)
          have hEx := hEw.on hbx
          have hbw1 := hbw.on hbx
          have hrx := hr0.on hbw1
          clear f0 f1 f2 d0 d1 d2 d3 hEw hbx hbw
          generalize wr.alloc (.cells #[.string ⟨x.key.toArray⟩, .int .u64 x.lsn, .bool x.del, .string ⟨x.val.toArray⟩] 24) = w2 at *
          generalize wr.heap.size = X at *
          have x0 : w2.cell? ⟨X, 0, none⟩ = some (.string ⟨x.key.toArray⟩) := by rw [hX.cell]; rfl
          have x1 : w2.cell? ⟨X, 1, none⟩ = some (.int .u64 x.lsn) := by rw [hX.cell]; rfl
          have x2 : w2.cell? ⟨X, 2, none⟩ = some (.bool x.del) := by rw [hX.cell]; rfl
          have x3 : w2.cell? ⟨X, 3, none⟩ = some (.string ⟨x.val.toArray⟩) := by rw [hX.cell]; rfl
          go_wp2_with fail
          refine (rMay_any x _ hok).mono ?_
          rintro e w3 ⟨rfl, hb3⟩
          have hX3 := hX.on hb3
          have hE3 := hEx.on hb3
          have hr3 := hrx.on hb3
          have hbw3 := hbw1.on hb3
          clear x0 x1 x2 x3 hX hEx hrx hbw1 hb3
          by_cases h3 : may x = 3
          · have HC := Lib.hid (Told.over (ts := ts) (first := first) HX.out h3)
            rw [h3]
            go_wp2_with fail
            go_ret
            rw [HC.out]
            exact ⟨rfl, hb0.on hbw3⟩
          · have hne3 : (((may x : Nat) : Int) == 3) = false := by rw [beq_eq_false_iff_ne]; omega
            have HN := Lib.hid (HT.out.next HX.out h3)
            obtain ⟨f0, f1, f2⟩ := entry_load hE3
            have x0 : w3.cell? ⟨X, 0, none⟩ = some (.string ⟨x.key.toArray⟩) := by rw [hX3.cell]; rfl
            have x1 : w3.cell? ⟨X, 1, none⟩ = some (.int .u64 x.lsn) := by rw [hX3.cell]; rfl
            go_upto_region 13 with fail
            clear hne3
            go_cut [67] (fun s67 wx => s67 = .bool (opBad first i x) ∧ w3 = wx)
            case first =>
              have hop : opBad first i x = (may x != 0 || !stampB x.lsn || decide (1099511627776 < first) || x.lsn != (first + i) % U64) := rfl
              by_cases hm0 : may x = 0
              · have hme : (((may x : Nat) : Int) != 0) = false := by simp [hm0]
                by_cases hC : stampB x.lsn = true
                · by_cases hF : 1099511627776 < first
                  · have HH := Lib.hid (show opBad first i x = true by rw [hop]; simp [hF])
                    clear hop hm0 h3
                    go_wp2_with fail
                    refine (rStamp_any _ _).mono ?_
                    rw [hC]
                    rintro e wy ⟨rfl, rfl⟩
                    clear hC
                    go_wp2_with fail
                    go_meet
                    exact ⟨by rw [HH.out], rfl⟩
                  · have hwr := wrap_add first i
                    by_cases hB : x.lsn = (first + i) % U64
                    · have hw : IntKind.u64.wrap ((first : Int) + (i : Int)) = (x.lsn : Int) := by rw [hwr, hB]
                      have HH := Lib.hid (show opBad first i x = false by rw [hop, hm0, hC, ← hB]; simp; omega)
                      clear hop hm0 hB hwr h3
                      go_wp2_with fail
                      refine (rStamp_any _ _).mono ?_
                      rw [hC]
                      rintro e wy ⟨rfl, rfl⟩
                      clear hC
                      go_wp2_with fail
                      go_meet
                      exact ⟨by rw [HH.out]; simp; omega, rfl⟩
                    · have HH := Lib.hid (show opBad first i x = true by rw [hop]; simp [hB])
                      generalize (first + i) % U64 = S at *
                      have hq : ((x.lsn : Int) != (S : Int)) = true := by simp; omega
                      clear hop hm0 h3 hB
                      go_wp2_with fail
                      refine (rStamp_any _ _).mono ?_
                      rw [hC]
                      rintro e wy ⟨rfl, rfl⟩
                      clear hC
                      go_wp2_with fail
                      go_meet
                      exact ⟨by rw [HH.out], rfl⟩
                · have hC' : stampB x.lsn = false := by simpa using hC
                  have HH := Lib.hid (show opBad first i x = true by rw [hop, hC']; simp)
                  clear hop hm0 hC h3
                  go_wp2_with fail
                  refine (rStamp_any _ _).mono ?_
                  rw [hC']
                  rintro e wy ⟨rfl, rfl⟩
                  clear hC'
                  go_wp2_with fail
                  go_meet
                  exact ⟨by rw [HH.out], rfl⟩
              · have hme : (((may x : Nat) : Int) != 0) = true := by simp; omega
                have HH := Lib.hid (show opBad first i x = true by rw [hop]; simp [hm0])
                clear hop hm0 h3
                go_wp2_with fail
                go_meet
                exact ⟨by rw [HH.out], rfl⟩
            case rest =>
            obtain ⟨rfl, rfl⟩ := hcut
            clear h3
            go_upto_if 67 with fail
            go_cut [3] (fun s3 wx => s3 = .int .i64 (outV (bad || opBad first i x)) ∧ w3 = wx)
            case first =>
              cases hH : opBad first i x
              · have HH := Lib.hid hH
                clear hH
                go_wp2_with fail
                go_meet
                exact ⟨by rw [HH.out, Bool.or_false], rfl⟩
              · have HH := Lib.hid hH
                clear hH
                go_wp2_with fail
                go_meet
                exact ⟨by rw [HH.out, Bool.or_true]; rfl, rfl⟩
            case rest =>
            obtain ⟨rfl, rfl⟩ := hcut
            generalize (bad || opBad first i x) = bo at *
            go_wp2_with fail
            go_loopw [3, 7] (fun s3 s7 wq => ∃ k : Nat, k ≤ i ∧ s7 = .int .i64 k ∧ s3 = .int .i64 (outV (bo || keyIn rs k x)) ∧ Below w3.heap.size w3 wq) (fun _ s7 _ => i - (intOf s7).toNat)
            case atStart => exact ⟨0, by omega, rfl, by simp [keyIn], Below.refl _ _⟩
            case round =>
              obtain ⟨k, hk, rfl, rfl, hbq⟩ := hrel
              by_cases hlk : k < i
              · obtain ⟨y, g', o', hy, hym, e', d0, d1, d2, d3⟩ := hr3.row hbq (show k < n by omega)
                cases e'
                have hXq := hX3.on hbq
                have hEq := hE3.on hbq
                clear f0 f1 f2 x0 x1
                obtain ⟨f0, f1, f2⟩ := entry_load hEq
                have x0 : wr.cell? ⟨X, 0, none⟩ = some (.string ⟨x.key.toArray⟩) := by rw [hXq.cell]; rfl
                have hkb := bytes_beq y.key x.key
                have hks : keyIn rs (k + 1) x = (keyIn rs k x || (y.key == x.key)) := by
                  unfold keyIn
                  rw [List.take_add_one, hy, List.any_append]
                  simp
                have HK := Lib.hid hks
                have HR := Lib.hid (show k < rs.length by rw [HL.out]; omega)
                clear hks hy hym
                cases hyx : y.key == x.key
                · have HY := Lib.hid hyx
                  clear hkb
                  go_wp2_with fail
                  go_region
                  go_wp2_with fail
                  go_roundw
                  case rel => exact ⟨k + 1, by omega, by go_num, by rw [HK.out, HY.out, Bool.or_false], below_drew hbq⟩
                  case measure => simp [intOf]; omega
                · have HY := Lib.hid hyx
                  clear hkb
                  go_wp2_with fail
                  go_region
                  go_wp2_with fail
                  go_roundw
                  case rel => exact ⟨k + 1, by omega, by go_num, by rw [HK.out, HY.out, Bool.or_true, Bool.or_true]; rfl, below_drew hbq⟩
                  case measure => simp [intOf]; omega
              · obtain rfl : k = i := by omega
                have hbq2 := hbw3.on hbq
                clear f0 f1 f2 x0 x1
                go_wp2_with fail
                go_roundw
                case rel => exact ⟨k + 1, bo || keyIn rs k x, by omega, by go_num, rfl, hbq2, HN.out⟩
                case measure => simp [intOf]; omega
        · obtain rfl : i = n := by omega
          have HD := Lib.hid (htold.done HL.out (by omega))
          clear htold
          go_wp2_with fail
          go_ret
          rw [HD.out]
          exact ⟨rfl, hbelw⟩
end Go.Proofs.Ytjlhkmkjegamdaa
