/-
  spec.rising, After and Apply: what entries make of maps. Condition: fewer than twenty entries (BoundE), of a thousand operations at most.
-/
import Derived.Test.YtffianjbljgnaaaRise
namespace Go.Proofs.Ytffianjbljgnaaa
set_option linter.unusedVariables false
set_option linter.unusedSimpArgs false
open Go.RowKit Go.Sort Go.Shelf Go.Proofs

set_option maxHeartbeats 1000000 in
theorem insE_none (w : World) : Calls Try.prog 74 #[.slice none 0 0, .int .i64 0, .int .i64 0, .func (.func 55) #[] #[]] w fun e w' => e = .returned (.tuple #[]) ∧ w = w' := by
  go_enter Try.func74, Try.ntmps74
  go_wp2_with fail
  go_loopw [8] (fun s6 wr => w = wr ∧ s6 = .int .i64 1) (fun _ _ => 0)
  case atStart => exact ⟨rfl, rfl⟩
  case round =>
    obtain ⟨rfl, rfl⟩ := hrel
    go_wp2_with fail
    go_end0
    exact ⟨rfl, rfl⟩
set_option maxHeartbeats 1000000 in
theorem stabE_none (w : World) : Calls Try.prog 64 #[.slice none 0 0, .int .i64 0, .func (.func 55) #[] #[]] w fun e w' => e = .returned (.tuple #[]) ∧ w = w' := by
  have HI := Lib.hid (insE_none w)
  go_enter Try.func64, Try.ntmps64
  go_wp2_with fail
  go_loopw [7, 8] (fun s7 s8 wr => w = wr ∧ s7 = .int .i64 0 ∧ s8 = .int .i64 20) (fun _ _ _ => 0)
  case atStart => exact ⟨rfl, rfl, rfl⟩
  case round =>
    obtain ⟨rfl, rfl, rfl⟩ := hrel
    go_wp2_with fail
    refine HI.out.mono ?_
    rintro e w1 ⟨rfl, rfl⟩
    go_wp2_with fail
    go_loopw [6, 7, 8, 9] (fun s6 s7 s8 s9 wr => w = wr ∧ s6 = .int .i64 20) (fun _ _ _ _ _ => 0)
    case atStart => exact ⟨rfl, rfl⟩
    case round =>
      obtain ⟨rfl, rfl⟩ := hrel
      go_wp2_with fail
      go_end0
      exact ⟨rfl, rfl⟩
set_option maxHeartbeats 1000000 in
theorem stableE_none (w : World) : Calls Try.prog 54 #[.slice none 0 0, .func (.func 55) #[] #[]] w fun e w' => e = .returned (.tuple #[]) ∧ w = w' := by
  have HS := Lib.hid (stabE_none w)
  go_enter Try.func54, Try.ntmps54
  go_wp2_with fail
  refine HS.out.mono ?_
  rintro e w1 ⟨rfl, rfl⟩
  go_wp2_with fail
  go_end0
  exact ⟨rfl, rfl⟩

def riseZ (z : List EZ) : List EZ := isort (fun p q => ltEnt p.1 q.1) z
theorem riseZ_fst (z : List EZ) : (riseZ z).map (·.1) = isort ltEnt (z.map (·.1)) := (isort_map (fun q : EZ => q.1) ltEnt z).symm
theorem isort_congr {α : Type} (lt lt' : α → α → Bool) (l : List α) (h : ∀ x ∈ l, ∀ y ∈ l, lt x y = lt' x y) : isort lt l = isort lt' l := by
  have h1 : ∀ (x : α) (Q : List α), (∀ y ∈ Q, lt x y = lt' x y) → insRev lt x Q = insRev lt' x Q := by
    intro x Q
    induction Q with
    | nil => intro _; rfl
    | cons y t ih =>
      intro hh
      unfold insRev
      rw [hh y (by simp), ih (fun z hz => hh z (List.mem_cons_of_mem _ hz))]
  have h2 : ∀ (d Q : List α), (∀ x ∈ d, x ∈ l) → (∀ x ∈ Q, x ∈ l) → d.foldl (fun R x => insRev lt x R) Q = d.foldl (fun R x => insRev lt' x R) Q := by
    intro d
    induction d with
    | nil => intro Q _ _; rfl
    | cons x t ih =>
      intro Q hd hQ
      rw [List.foldl_cons, List.foldl_cons, h1 x Q (fun y hy => h x (hd x (by simp)) y (hQ y hy))]
      refine ih _ (fun y hy => hd y (List.mem_cons_of_mem _ hy)) (fun y hy => ?_)
      rcases List.mem_cons.1 ((insRev_perm lt' x Q).mem_iff.1 hy) with rfl | hy
      · exact hd y (by simp)
      · exact hQ y hy
  unfold isort
  rw [h2 l [] (fun x hx => hx) (by simp)]
theorem riseZ_snd {w : World} {z : List EZ} (h : ∀ q ∈ z, EntIs w q.1 q.2) : (riseZ z).map (·.2) = rise (z.map (·.2)) := by
  unfold rise riseZ
  rw [isort_map (fun q : EZ => q.2) ltEntry z]
  congr 1
  refine isort_congr _ _ _ fun x hx y hy => ?_
  unfold ltEnt ltEntry
  rw [(h x hx).ts, (h y hy).ts]
theorem riseZ_mem {z : List EZ} {q : EZ} : q ∈ riseZ z ↔ q ∈ z := (isort_perm _ z).mem_iff
theorem riseZ_length (z : List EZ) : (riseZ z).length = z.length := isort_length _ _
/-- What rising ends with. -/
def RiseEnd (z : List EZ) (n : Nat) (w : World) (e : Ending) (w' : World) : Prop :=
  ∃ (a : Option Addr) (c : Nat), e = .returned (.slice a n c) ∧ EntsAt w' a n c (riseZ z) ∧ (∀ g o, a = some ⟨g, o, none⟩ → w.heap.size ≤ g) ∧ Below w.heap.size w w'
set_option maxHeartbeats 1000000 in
theorem rising_any (w : World) (a : Option Addr) (n c : Nat) (z : List EZ) (h : EntsAt w a n c z) (hn : BoundE n) :
    Calls Try.prog 32 #[.slice a n c] w (RiseEnd z n w) := by
  have HC := Lib.hid (cloneE_any w a n c _ h.rows hn.le)
  have HH := Lib.hid h
  clear h
  go_enter Try.func32, Try.ntmps32
  go_wp2_with fail
  refine HC.out.mono ?_
  rintro e w1 ⟨v, rfl, hown, hb⟩
  rcases Nat.eq_zero_or_pos n with h0 | h0
  · subst h0
    have hz : z = [] := List.eq_nil_of_length_eq_zero HH.out.len
    subst hz
    rcases hown.2 with ⟨rfl, _⟩ | ⟨g, cap, cur, rfl, hg, hh, hc1, hc2, hs, ht⟩
    · have HE := Lib.hid (show RiseEnd [] 0 w (.returned (.slice none 0 0)) w1 from ⟨none, 0, rfl, ⟨rfl, RowsAt.nil _ _, by simp [riseZ, isort]⟩, (fun g o e => by cases e), hb⟩)
      clear hown hb
      go_wp2_with fail
      refine (stableE_none w1).mono ?_
      rintro e w2 ⟨rfl, rfl⟩
      go_wp2_with fail
      go_ret
      exact HE.out
    · have hblk : Blk w1 g (entsCells [] ++ cur.toList) 40 := by unfold Blk; rw [hh]; rfl
      have HS := Lib.hid (stableE_any g [] cur.toList cap (by unfold BoundE; simp) w1 hblk)
      rw [show (([] : List Ent).length) = 0 from rfl] at HS
      have HB := Lib.hid hb
      clear hown hb hh ht
      go_wp2_with fail
      refine HS.out.mono ?_
      rintro e w2 ⟨rfl, hb2, hm2⟩
      have HE := Lib.hid (show RiseEnd [] 0 w (.returned (.slice (some ⟨g, 0, none⟩) 0 cap)) w2 from ⟨some ⟨g, 0, none⟩, cap, rfl, ⟨rfl, ⟨rfl, Nat.zero_le _, by omega, fun hn => absurd hn (Nat.lt_irrefl 0)⟩, by simp [riseZ, isort]⟩, (fun g' o e => by cases e; exact hg), HB.out.trans (hm2.below (fun x hx => by simp at hx; omega) HB.out.size)⟩)
      clear hb2 hm2
      go_wp2_with fail
      go_ret
      exact HE.out
  · obtain ⟨g, cap, rest, rfl, hg, hc1, hc2, hblk⟩ := owns_blk hown (by omega)
    have hl : (z.map (·.1)).length = n := by rw [List.length_map, HH.out.len]
    have HS := Lib.hid (stableE_any g (z.map (·.1)) rest cap (by rw [hl]; exact hn) w1 hblk)
    rw [hl] at HS
    have HB := Lib.hid hb
    have HL := Lib.hid hl
    clear hown hb hblk hl
    go_wp2_with fail
    refine HS.out.mono ?_
    rintro e w2 ⟨rfl, hb2, hm2⟩
    have HE := Lib.hid (show RiseEnd z n w (.returned (.slice (some ⟨g, 0, none⟩) n cap)) w2 from by
      have hbw : Below w.heap.size w w2 := HB.out.trans (hm2.below (fun x hx => by simp at hx; omega) HB.out.size)
      refine ⟨some ⟨g, 0, none⟩, cap, rfl, ⟨by rw [riseZ_length, HH.out.len], ?_, fun q hq => ((HH.out.each q (riseZ_mem.1 hq)).on hbw)⟩, (fun g' o e => by cases e; exact hg), hbw⟩
      rw [riseZ_fst]
      exact RowsAt.of_blk hb2 (by rw [ents_length, isort_length, HL.out]) hc1 (by unfold maxLen at hc2; omega))
    clear hb2 hm2
    go_wp2_with fail
    go_ret
    exact HE.out
/-- What entries make of a map, in the order of their timestamps. -/
def runL (M : List KV) (l : List Entry) : List KV := l.foldl (fun M x => x.ops.foldl app M) M
def afterL (l : List Entry) : List KV := runL [] (rise l)
set_option maxRecDepth 100000 in
set_option maxHeartbeats 4000000 in
theorem after_any (w : World) (a : Option Addr) (n c : Nat) (z : List EZ) (h : EntsAt w a n c z) (hn : BoundE n) (hops : ∀ q ∈ z, q.2.ops.length ≤ 1000) :
    Calls Try.prog 10 #[.slice a n c] w (PairsEnd (afterL (z.map (·.2))) w) := by
  have hb0 := (Below.refl w.heap.size w).alloc (Nat.le_refl _) (.map #[] 0)
  have HR := Lib.hid (rising_any _ a n c z (h.on hb0) hn)
  have HZ := Lib.hid (riseZ_snd h.each)
  have HH := Lib.hid h
  have HO := Lib.hid (show ∀ q ∈ riseZ z, q.2.ops.length ≤ 1000 from fun q hq => hops q (riseZ_mem.1 hq))
  have hN : n ≤ 900 := hn.le9
  have HS0 := Lib.hid (StoreAt.made w)
  have hM0 := VMap.made_run (w := w) (k := 9) (e := 9) (t := 72) Try.underlying72
  have HB0 := Lib.hid hb0
  clear h hops hn hb0
  go_enter Try.func10, Try.ntmps10
  go_wp2_with fail
  refine HR.out.mono ?_
  rintro e w1 ⟨a1, c1, rfl, hE, hold, hb1⟩
  have HE := Lib.hid hE
  have HOld := Lib.hid hold
  have HB1 := Lib.hid hb1
  have HS1 := Lib.hid (HS0.out.on hb1)
  clear hE hold hb1 hM0
  go_wp2_with fail
  go_loopw [5, 7, 12] (fun _ _ s12 wr => ∃ (i : Nat) (M : List KV), i ≤ n ∧ s12 = .int .i64 i ∧ runL [] (((riseZ z).take i).map (·.2)) = M ∧ M.length ≤ i * 1000 ∧ StoreAt wr w.heap.size M ∧ Mod [w.heap.size] w1 wr) (fun _ _ s12 _ => n - (intOf s12).toNat)
  case atStart => exact ⟨0, [], by omega, rfl, rfl, by simp, HS1.out, Mod.refl _ _⟩
  case round =>
    obtain ⟨i, M, hi, rfl, hM, hlen, hS, hm⟩ := hrel
    by_cases hlt : i < n
    · have hil : (i : Int) < (n : Int) := by omega
      obtain ⟨q, g, o, hq, hqz, rfl, hg, c0, c1', c2⟩ := HE.out.row hlt
      have hgb : g ∉ [w.heap.size] := by
        have := HOld.out g o rfl
        simp at this ⊢
        omega
      have k0 := (hm.cell hg hgb).trans c0
      have k1 := (hm.cell hg hgb).trans c1'
      have k2 := (hm.cell hg hgb).trans c2
      clear c0 c1' c2
      have hBn := (Below.refl wr.heap.size wr).alloc (Nat.le_refl _) (.cells #[.int .u64 (q.1.ts : Nat), .int .u64 (q.1.first : Nat), .slice q.1.a q.1.n q.1.c] 40)
      have HS2 := Lib.hid (hS.on hBn)
      have HM2 := Lib.hid (hm.thenBelow hBn)
      have HQ := Lib.hid hq
      have HQE := Lib.hid (HH.out.each q (riseZ_mem.1 hqz))
      have HQO := Lib.hid (HO.out q hqz)
      clear hq hqz hS hm hBn hgb
      go_wp2_with fail
      go_loopw [7, 19] (fun _ s19 wx => ∃ (j : Nat) (M2 : List KV), j ≤ q.1.n ∧ s19 = .int .i64 j ∧ (q.2.ops.take j).foldl app M = M2 ∧ M2.length ≤ i * 1000 + j ∧ StoreAt wx w.heap.size M2 ∧ Mod [w.heap.size] w1 wx) (fun _ s19 _ => q.1.n - (intOf s19).toNat)
      case atStart => exact ⟨0, M, by omega, rfl, rfl, by omega, HS2.out, HM2.out⟩
      case round =>
        obtain ⟨j, M2, hj, rfl, hM2, hlen2, hS3, hm3⟩ := hrel
        by_cases hltj : j < q.1.n
        · have hjl : (j : Int) < (q.1.n : Int) := by omega
          have hnq : q.1.n ≤ 1000 := by rw [HQE.out.n]; exact HQO.out
          have hbw : Below w.heap.size w wr := (HB0.out.trans (HB1.out.mono HB0.out.size)).trans (hm3.below (fun x hx => by simp at hx; omega) (HB0.out.trans (HB1.out.mono HB0.out.size)).size)
          obtain ⟨r, g2, o2, hr, hrl, ha2, hg2, d0, d1, d2, d3⟩ := recs_row (HQE.out.rows.on hbw) HQE.out.n hltj
          obtain ⟨⟨ets, ef, ea, en, ec⟩, x⟩ := q
          simp only at ha2 hjl hltj hj hM2 hr hrl hnq
          subst ha2
          have hD := do_any (wr.alloc (.cells #[.string ⟨r.key.toArray⟩, .int .u64 (r.lsn : Nat), .bool r.del, .string ⟨r.val.toArray⟩] 58)) w.heap.size M2 (hS3.on ((Below.refl wr.heap.size wr).alloc (Nat.le_refl _) _)) (by have h1 := HQO.out; have h2 := HQE.out.n; simp only at h1 h2; omega) r ((HQE.out.ok.ops r hrl).1)
          have HD := Lib.hid hD
          have HM3 := Lib.hid (hm3.thenBelow ((Below.refl wr.heap.size wr).alloc (Nat.le_refl _) (.cells #[.string ⟨r.key.toArray⟩, .int .u64 (r.lsn : Nat), .bool r.del, .string ⟨r.val.toArray⟩] 58)))
          have HNext := Lib.hid (show (x.ops.take (j + 1)).foldl app M = app M2 r by rw [List.take_add_one, hr, List.foldl_append, hM2]; rfl)
          have HLen := Lib.hid (show (app M2 r).length ≤ i * 1000 + (j + 1) by have := app_length hS3.asc r; omega)
          clear hD hm3 hS3 hr hrl hM2 hbw
          go_wp2_with fail
          refine HD.out.mono ?_
          rintro e w2 ⟨rfl, hS4, hm4⟩
          go_wp2_with fail
          go_roundw
          case rel => exact ⟨j + 1, _, by omega, by go_num, HNext.out, HLen.out, hS4, HM3.out.trans hm4⟩
          case measure => simp [intOf]; omega
        · have hje : ¬ (j : Int) < (q.1.n : Int) := by omega
          have hjj : j = q.2.ops.length := by have := HQE.out.n; omega
          have HNext := Lib.hid (show runL [] (((riseZ z).take (i + 1)).map (·.2)) = M2 by
            rw [List.take_add_one, HQ.out, List.map_append, ← hM2, ← hM]
            unfold runL
            rw [List.foldl_append, hjj, List.take_of_length_le (Nat.le_refl _)]
            rfl)
          have HLen := Lib.hid (show M2.length ≤ (i + 1) * 1000 by have := HQO.out; omega)
          clear hM2 hM
          go_wp2_with fail
          go_roundw
          case rel => exact ⟨i + 1, M2, by omega, by go_num, HNext.out, HLen.out, hS3, hm3⟩
          case measure => simp [intOf]; omega
    · have hge : ¬ (i : Int) < (n : Int) := by omega
      have HP := Lib.hid (pairs_any wr w.heap.size M [] [] hS (by omega))
      have hin : i = (riseZ z).length := by have := HE.out.len; omega
      have HMM := Lib.hid (show M = afterL (z.map (·.2)) by
        unfold afterL
        rw [← hM, hin, List.take_of_length_le (Nat.le_refl _), HZ.out])
      have hbw : Below w.heap.size w wr := (HB0.out.trans (HB1.out.mono HB0.out.size)).trans (hm.below (fun x hx => by simp at hx; omega) (HB0.out.trans (HB1.out.mono HB0.out.size)).size)
      have HBW := Lib.hid hbw
      clear hM hS hm hbw
      go_wp2_with fail
      refine HP.out.mono ?_
      rintro e w2 ⟨a2, c2, rfl, hrows, hold2, hb2⟩
      rw [sel_all, HMM.out] at hrows
      have HE2 := Lib.hid (show PairsEnd (afterL (z.map (·.2))) w (.returned (.slice a2 (sel M [] []).length c2)) w2 from ⟨a2, c2, by rw [sel_all, HMM.out], hrows, fun g o e => Nat.le_trans HBW.out.size (hold2 g o e), HBW.out.trans (hb2.mono HBW.out.size)⟩)
      clear hrows hold2 hb2
      go_wp2_with fail
      go_ret
      exact HE2.out
end Go.Proofs.Ytffianjbljgnaaa
