/-
  Texts folded into one: Rise, After, Cut, CutE, Work27a, Work27.
-/
import Derived.Test.YtffianjbljgnaaaSyeT
import Derived.Test.YtffianjbljgnaaaSerial
import Derived.Great.BuildSlice

/-! ### Rise -/
namespace Go.Proofs.Ytffianjbljgnaaa
set_option linter.unusedVariables false
set_option linter.unusedSimpArgs false
open Go.RowKit Go.Sort Go.Shelf Go.Proofs

/-- How many entries are sorted. -/
def BoundE (n : Nat) : Prop := n ≤ 900
theorem BoundE.le {n : Nat} (h : BoundE n) : n ≤ 1000000 := by unfold BoundE at h; omega
theorem BoundE.le9 {n : Nat} (h : BoundE n) : n ≤ 900 := h
theorem stableE_any (g : Nat) (D : List Ent) (rest : List Value) (cap : Nat) (hl : BoundE D.length) (hcap : D.length ≤ cap) (w : World) (h : Blk w g (entsCells D ++ rest) 40) :
    Calls Try.prog 54 #[.slice (some ⟨g, 0, none⟩) D.length cap, .func (.func 55) #[] #[]] w (SortedE g D rest w) :=
  stable_any_E g D rest cap (by have := hl.le9; omega) hcap w h
end Go.Proofs.Ytffianjbljgnaaa

/-! ### After -/
namespace Go.Proofs.Ytffianjbljgnaaa
set_option linter.unusedVariables false
set_option linter.unusedSimpArgs false
open Go.RowKit Go.Sort Go.Shelf Go.Proofs

set_option maxHeartbeats 1000000 in
theorem insE_none (w : World) : Calls Try.prog 74 #[.slice none 0 0, .int .i64 0, .int .i64 0, .func (.func 55) #[] #[]] w fun e w' => e = .returned (.tuple #[]) ∧ w = w' := by
  go_enter Try.func74, Try.ntmps74
  go_wp2_with fail
  go_loopw [8] (fun s6 wr => w = wr ∧ s6 = .int .i64 1) (fun _ _ => 0)
  case atStart => exact ⟨rfl, rfl⟩
  case round =>
    obtain ⟨rfl, rfl⟩ := hrel
    go_wp2_with fail
    go_end0
    exact ⟨rfl, rfl⟩
set_option maxHeartbeats 1000000 in
theorem stabE_none (w : World) : Calls Try.prog 64 #[.slice none 0 0, .int .i64 0, .func (.func 55) #[] #[]] w fun e w' => e = .returned (.tuple #[]) ∧ w = w' := by
  have HI := Lib.hid (insE_none w)
  go_enter Try.func64, Try.ntmps64
  go_wp2_with fail
  go_loopw [7, 8] (fun s7 s8 wr => w = wr ∧ s7 = .int .i64 0 ∧ s8 = .int .i64 20) (fun _ _ _ => 0)
  case atStart => exact ⟨rfl, rfl, rfl⟩
  case round =>
    obtain ⟨rfl, rfl, rfl⟩ := hrel
    go_wp2_with fail
    refine HI.out.mono ?_
    rintro e w1 ⟨rfl, rfl⟩
    go_wp2_with fail
    go_loopw [6, 7, 8, 9] (fun s6 s7 s8 s9 wr => w = wr ∧ s6 = .int .i64 20) (fun _ _ _ _ _ => 0)
    case atStart => exact ⟨rfl, rfl⟩
    case round =>
      obtain ⟨rfl, rfl⟩ := hrel
      go_wp2_with fail
      go_end0
      exact ⟨rfl, rfl⟩
set_option maxHeartbeats 1000000 in
theorem stableE_none (w : World) : Calls Try.prog 54 #[.slice none 0 0, .func (.func 55) #[] #[]] w fun e w' => e = .returned (.tuple #[]) ∧ w = w' := by
  have HS := Lib.hid (stabE_none w)
  go_enter Try.func54, Try.ntmps54
  go_wp2_with fail
  refine HS.out.mono ?_
  rintro e w1 ⟨rfl, rfl⟩
  go_wp2_with fail
  go_end0
  exact ⟨rfl, rfl⟩

def riseZ (z : List EZ) : List EZ := isort (fun p q => ltEnt p.1 q.1) z
theorem riseZ_fst (z : List EZ) : (riseZ z).map (·.1) = isort ltEnt (z.map (·.1)) := (isort_map (fun q : EZ => q.1) ltEnt z).symm
theorem isort_congr {α : Type} (lt lt' : α → α → Bool) (l : List α) (h : ∀ x ∈ l, ∀ y ∈ l, lt x y = lt' x y) : isort lt l = isort lt' l := by
  have h1 : ∀ (x : α) (Q : List α), (∀ y ∈ Q, lt x y = lt' x y) → insRev lt x Q = insRev lt' x Q := by
    intro x Q
    induction Q with
    | nil => intro _; rfl
    | cons y t ih =>
      intro hh
      unfold insRev
      rw [hh y (by simp), ih (fun z hz => hh z (List.mem_cons_of_mem _ hz))]
  have h2 : ∀ (d Q : List α), (∀ x ∈ d, x ∈ l) → (∀ x ∈ Q, x ∈ l) → d.foldl (fun R x => insRev lt x R) Q = d.foldl (fun R x => insRev lt' x R) Q := by
    intro d
    induction d with
    | nil => intro Q _ _; rfl
    | cons x t ih =>
      intro Q hd hQ
      rw [List.foldl_cons, List.foldl_cons, h1 x Q (fun y hy => h x (hd x (by simp)) y (hQ y hy))]
      refine ih _ (fun y hy => hd y (List.mem_cons_of_mem _ hy)) (fun y hy => ?_)
      rcases List.mem_cons.1 ((insRev_perm lt' x Q).mem_iff.1 hy) with rfl | hy
      · exact hd y (by simp)
      · exact hQ y hy
  unfold isort
  rw [h2 l [] (fun x hx => hx) (by simp)]
theorem riseZ_snd {w : World} {z : List EZ} (h : ∀ q ∈ z, EntIs w q.1 q.2) : (riseZ z).map (·.2) = rise (z.map (·.2)) := by
  unfold rise riseZ
  rw [isort_map (fun q : EZ => q.2) ltEntry z]
  congr 1
  refine isort_congr _ _ _ fun x hx y hy => ?_
  unfold ltEnt ltEntry
  rw [(h x hx).ts, (h y hy).ts]
theorem riseZ_mem {z : List EZ} {q : EZ} : q ∈ riseZ z ↔ q ∈ z := (isort_perm _ z).mem_iff
theorem riseZ_length (z : List EZ) : (riseZ z).length = z.length := isort_length _ _
/-- What rising ends with. -/
def RiseEnd (z : List EZ) (n : Nat) (w : World) (e : Ending) (w' : World) : Prop :=
  ∃ (a : Option Addr) (c : Nat), e = .returned (.slice a n c) ∧ EntsAt w' a n c (riseZ z) ∧ (∀ g o, a = some ⟨g, o, none⟩ → w.heap.size ≤ g) ∧ Below w.heap.size w w'
set_option maxHeartbeats 1000000 in
theorem rising_any (w : World) (a : Option Addr) (n c : Nat) (z : List EZ) (h : EntsAt w a n c z) (hn : BoundE n) :
    Calls Try.prog 32 #[.slice a n c] w (RiseEnd z n w) := by
  have HC := Lib.hid (cloneE_any w a n c _ h.rows hn.le)
  have HH := Lib.hid h
  clear h
  go_enter Try.func32, Try.ntmps32
  go_wp2_with fail
  refine HC.out.mono ?_
  rintro e w1 ⟨v, rfl, hown, hb⟩
  rcases Nat.eq_zero_or_pos n with h0 | h0
  · subst h0
    have hz : z = [] := List.eq_nil_of_length_eq_zero HH.out.len
    subst hz
    rcases hown.2 with ⟨rfl, _⟩ | ⟨g, cap, cur, rfl, hg, hh, hc1, hc2, hs, ht⟩
    · have HE := Lib.hid (show RiseEnd [] 0 w (.returned (.slice none 0 0)) w1 from ⟨none, 0, rfl, ⟨rfl, RowsAt.nil _ _, by simp [riseZ, isort]⟩, (fun g o e => by cases e), hb⟩)
      clear hown hb
      go_wp2_with fail
      refine (stableE_none w1).mono ?_
      rintro e w2 ⟨rfl, rfl⟩
      go_wp2_with fail
      go_ret
      exact HE.out
    · have hblk : Blk w1 g (entsCells [] ++ cur.toList) 40 := by unfold Blk; rw [hh]; rfl
      have HS := Lib.hid (stableE_any g [] cur.toList cap (by unfold BoundE; simp) (by simp) w1 hblk)
      rw [show (([] : List Ent).length) = 0 from rfl] at HS
      have HB := Lib.hid hb
      clear hown hb hh ht
      go_wp2_with fail
      refine HS.out.mono ?_
      rintro e w2 ⟨rfl, hb2, hm2⟩
      have HE := Lib.hid (show RiseEnd [] 0 w (.returned (.slice (some ⟨g, 0, none⟩) 0 cap)) w2 from ⟨some ⟨g, 0, none⟩, cap, rfl, ⟨rfl, ⟨rfl, Nat.zero_le _, by omega, fun hn => absurd hn (Nat.lt_irrefl 0)⟩, by simp [riseZ, isort]⟩, (fun g' o e => by cases e; exact hg), HB.out.trans (hm2.below (fun x hx => by simp at hx; omega) HB.out.size)⟩)
      clear hb2 hm2
      go_wp2_with fail
      go_ret
      exact HE.out
  · obtain ⟨g, cap, rest, rfl, hg, hc1, hc2, hblk⟩ := owns_blk hown (by omega)
    have hl : (z.map (·.1)).length = n := by rw [List.length_map, HH.out.len]
    have HS := Lib.hid (stableE_any g (z.map (·.1)) rest cap (by rw [hl]; exact hn) (by rw [hl]; exact hc1) w1 hblk)
    rw [hl] at HS
    have HB := Lib.hid hb
    have HL := Lib.hid hl
    clear hown hb hblk hl
    go_wp2_with fail
    refine HS.out.mono ?_
    rintro e w2 ⟨rfl, hb2, hm2⟩
    have HE := Lib.hid (show RiseEnd z n w (.returned (.slice (some ⟨g, 0, none⟩) n cap)) w2 from by
      have hbw : Below w.heap.size w w2 := HB.out.trans (hm2.below (fun x hx => by simp at hx; omega) HB.out.size)
      refine ⟨some ⟨g, 0, none⟩, cap, rfl, ⟨by rw [riseZ_length, HH.out.len], ?_, fun q hq => ((HH.out.each q (riseZ_mem.1 hq)).on hbw)⟩, (fun g' o e => by cases e; exact hg), hbw⟩
      rw [riseZ_fst]
      exact RowsAt.of_blk hb2 (by rw [ents_length, isort_length, HL.out]) hc1 (by unfold maxLen at hc2; omega))
    clear hb2 hm2
    go_wp2_with fail
    go_ret
    exact HE.out
/-- What entries make of a map, in the order of their timestamps. -/
def runL (M : List KV) (l : List Entry) : List KV := l.foldl (fun M x => x.ops.foldl app M) M
def afterL (l : List Entry) : List KV := runL [] (rise l)
set_option maxRecDepth 100000 in
set_option maxHeartbeats 4000000 in
theorem after_any (w : World) (a : Option Addr) (n c : Nat) (z : List EZ) (h : EntsAt w a n c z) (hn : BoundE n) (hops : ∀ q ∈ z, q.2.ops.length ≤ 1000) :
    Calls Try.prog 10 #[.slice a n c] w (PairsEnd (afterL (z.map (·.2))) w) := by
  have hb0 := (Below.refl w.heap.size w).alloc (Nat.le_refl _) (.map #[] 0)
  have HR := Lib.hid (rising_any _ a n c z (h.on hb0) hn)
  have HZ := Lib.hid (riseZ_snd h.each)
  have HH := Lib.hid h
  have HO := Lib.hid (show ∀ q ∈ riseZ z, q.2.ops.length ≤ 1000 from fun q hq => hops q (riseZ_mem.1 hq))
  have hN : n ≤ 900 := hn.le9
  have HS0 := Lib.hid (StoreAt.made w)
  have hM0 := VMap.made_run (w := w) (k := 9) (e := 9) (t := 72) Try.underlying72
  have HB0 := Lib.hid hb0
  clear h hops hn hb0
  go_enter Try.func10, Try.ntmps10
  go_wp2_with fail
  refine HR.out.mono ?_
  rintro e w1 ⟨a1, c1, rfl, hE, hold, hb1⟩
  have HE := Lib.hid hE
  have HOld := Lib.hid hold
  have HB1 := Lib.hid hb1
  have HS1 := Lib.hid (HS0.out.on hb1)
  clear hE hold hb1 hM0
  go_wp2_with fail
  go_loopw [5, 7, 12] (fun _ _ s12 wr => ∃ (i : Nat) (M : List KV), i ≤ n ∧ s12 = .int .i64 i ∧ runL [] (((riseZ z).take i).map (·.2)) = M ∧ M.length ≤ i * 1000 ∧ StoreAt wr w.heap.size M ∧ Mod [w.heap.size] w1 wr) (fun _ _ s12 _ => n - (intOf s12).toNat)
  case atStart => exact ⟨0, [], by omega, rfl, rfl, by simp, HS1.out, Mod.refl _ _⟩
  case round =>
    obtain ⟨i, M, hi, rfl, hM, hlen, hS, hm⟩ := hrel
    by_cases hlt : i < n
    · have hil : (i : Int) < (n : Int) := by omega
      obtain ⟨q, g, o, hq, hqz, rfl, hg, c0, c1', c2⟩ := HE.out.row hlt
      have hgb : g ∉ [w.heap.size] := by
        have := HOld.out g o rfl
        simp at this ⊢
        omega
      have k0 := (hm.cell hg hgb).trans c0
      have k1 := (hm.cell hg hgb).trans c1'
      have k2 := (hm.cell hg hgb).trans c2
      clear c0 c1' c2
      have hBn := (Below.refl wr.heap.size wr).alloc (Nat.le_refl _) (.cells #[.int .u64 (q.1.ts : Nat), .int .u64 (q.1.first : Nat), .slice q.1.a q.1.n q.1.c] 40)
      have HS2 := Lib.hid (hS.on hBn)
      have HM2 := Lib.hid (hm.thenBelow hBn)
      have HQ := Lib.hid hq
      have HQE := Lib.hid (HH.out.each q (riseZ_mem.1 hqz))
      have HQO := Lib.hid (HO.out q hqz)
      clear hq hqz hS hm hBn hgb
      go_wp2_with fail
      go_loopw [7, 19] (fun _ s19 wx => ∃ (j : Nat) (M2 : List KV), j ≤ q.1.n ∧ s19 = .int .i64 j ∧ (q.2.ops.take j).foldl app M = M2 ∧ M2.length ≤ i * 1000 + j ∧ StoreAt wx w.heap.size M2 ∧ Mod [w.heap.size] w1 wx) (fun _ s19 _ => q.1.n - (intOf s19).toNat)
      case atStart => exact ⟨0, M, by omega, rfl, rfl, by omega, HS2.out, HM2.out⟩
      case round =>
        obtain ⟨j, M2, hj, rfl, hM2, hlen2, hS3, hm3⟩ := hrel
        by_cases hltj : j < q.1.n
        · have hjl : (j : Int) < (q.1.n : Int) := by omega
          have hnq : q.1.n ≤ 1000 := by rw [HQE.out.n]; exact HQO.out
          have hbw : Below w.heap.size w wr := (HB0.out.trans (HB1.out.mono HB0.out.size)).trans (hm3.below (fun x hx => by simp at hx; omega) (HB0.out.trans (HB1.out.mono HB0.out.size)).size)
          obtain ⟨r, g2, o2, hr, hrl, ha2, hg2, d0, d1, d2, d3⟩ := recs_row (HQE.out.rows.on hbw) HQE.out.n hltj
          obtain ⟨⟨ets, ef, ea, en, ec⟩, x⟩ := q
          simp only at ha2 hjl hltj hj hM2 hr hrl hnq
          subst ha2
          have hD := do_any (wr.alloc (.cells #[.string ⟨r.key.toArray⟩, .int .u64 (r.lsn : Nat), .bool r.del, .string ⟨r.val.toArray⟩] 58)) w.heap.size M2 (hS3.on ((Below.refl wr.heap.size wr).alloc (Nat.le_refl _) _)) (by have h1 := HQO.out; have h2 := HQE.out.n; simp only at h1 h2; omega) r ((HQE.out.ok.ops r hrl).1)
          have HD := Lib.hid hD
          have HM3 := Lib.hid (hm3.thenBelow ((Below.refl wr.heap.size wr).alloc (Nat.le_refl _) (.cells #[.string ⟨r.key.toArray⟩, .int .u64 (r.lsn : Nat), .bool r.del, .string ⟨r.val.toArray⟩] 58)))
          have HNext := Lib.hid (show (x.ops.take (j + 1)).foldl app M = app M2 r by rw [List.take_add_one, hr, List.foldl_append, hM2]; rfl)
          have HLen := Lib.hid (show (app M2 r).length ≤ i * 1000 + (j + 1) by have := app_length hS3.asc r; omega)
          clear hD hm3 hS3 hr hrl hM2 hbw
          go_wp2_with fail
          refine HD.out.mono ?_
          rintro e w2 ⟨rfl, hS4, hm4⟩
          go_wp2_with fail
          go_roundw
          case rel => exact ⟨j + 1, _, by omega, by go_num, HNext.out, HLen.out, hS4, HM3.out.trans hm4⟩
          case measure => simp [intOf]; omega
        · have hje : ¬ (j : Int) < (q.1.n : Int) := by omega
          have hjj : j = q.2.ops.length := by have := HQE.out.n; omega
          have HNext := Lib.hid (show runL [] (((riseZ z).take (i + 1)).map (·.2)) = M2 by
            rw [List.take_add_one, HQ.out, List.map_append, ← hM2, ← hM]
            unfold runL
            rw [List.foldl_append, hjj, List.take_of_length_le (Nat.le_refl _)]
            rfl)
          have HLen := Lib.hid (show M2.length ≤ (i + 1) * 1000 by have := HQO.out; omega)
          clear hM2 hM
          go_wp2_with fail
          go_roundw
          case rel => exact ⟨i + 1, M2, by omega, by go_num, HNext.out, HLen.out, hS3, hm3⟩
          case measure => simp [intOf]; omega
    · have hge : ¬ (i : Int) < (n : Int) := by omega
      have HP := Lib.hid (pairs_any wr w.heap.size M [] [] hS (by omega))
      have hin : i = (riseZ z).length := by have := HE.out.len; omega
      have HMM := Lib.hid (show M = afterL (z.map (·.2)) by
        unfold afterL
        rw [← hM, hin, List.take_of_length_le (Nat.le_refl _), HZ.out])
      have hbw : Below w.heap.size w wr := (HB0.out.trans (HB1.out.mono HB0.out.size)).trans (hm.below (fun x hx => by simp at hx; omega) (HB0.out.trans (HB1.out.mono HB0.out.size)).size)
      have HBW := Lib.hid hbw
      clear hM hS hm hbw
      go_wp2_with fail
      refine HP.out.mono ?_
      rintro e w2 ⟨a2, c2, rfl, hrows, hold2, hb2⟩
      rw [sel_all, HMM.out] at hrows
      have HE2 := Lib.hid (show PairsEnd (afterL (z.map (·.2))) w (.returned (.slice a2 (sel M [] []).length c2)) w2 from ⟨a2, c2, by rw [sel_all, HMM.out], hrows, fun g o e => Nat.le_trans HBW.out.size (hold2 g o e), HBW.out.trans (hb2.mono HBW.out.size)⟩)
      clear hrows hold2 hb2
      go_wp2_with fail
      go_ret
      exact HE2.out
end Go.Proofs.Ytffianjbljgnaaa

/-! ### Cut -/
namespace Go.Proofs.Ytffianjbljgnaaa
set_option linter.unusedVariables false
set_option linter.unusedSimpArgs false
open Go.RowKit

def cutRec (r : Rec) : Rec := ⟨r.key.take 20, r.lsn, r.del, r.val.take 20⟩
def cutRecs (most : Nat) (R : List Rec) : List Rec := (R.take most).map cutRec
theorem info_rec : (Try.prog.info? 58).map (fun i => (i.zero, i.size, i.bytes)) = some (some (.agg #[.string ⟨#[]⟩, .int .u64 0, .bool false, .string ⟨#[]⟩]), 4, 48) := by kernel_rfl
/-- What a row of records ends with. -/
def RecsEnd (R : List Rec) (w : World) (e : Ending) (w' : World) : Prop :=
  ∃ (a : Option Addr) (c : Nat), e = .returned (.slice a R.length c) ∧ RowsAt w' a R.length c 4 (recsCells R) ∧ (∀ g o, a = some ⟨g, o, none⟩ → w.heap.size ≤ g ∧ g < w'.heap.size) ∧ Below w.heap.size w w'
theorem recs_append (l m : List Rec) : recsCells (l ++ m) = recsCells l ++ recsCells m := by unfold recsCells; rw [List.flatMap_append]
theorem recs_one (l : List Rec) : ∀ u ∈ recsCells l, u.oneCell' = true := by
  intro u hu
  unfold recsCells at hu
  obtain ⟨r, _, hr⟩ := List.mem_flatMap.1 hu
  simp only [recCells, List.mem_cons, List.not_mem_nil, or_false] at hr
  rcases hr with rfl | rfl | rfl | rfl <;> rfl
theorem min_run (n : Nat) (w : World) : (Builtin.min_ #[3, 3] 3 #[.int .i64 (n : Nat), .int .i64 20]).run Try.prog w = .ok (.int .i64 (min n 20 : Nat)) w := by
  rw [run_min_int2, show (if (20 : Int) < n then (20 : Int) else n) = ((min n 20 : Nat) : Int) from by split <;> omega]
theorem take_min (l : List UInt8) : (⟨l.toArray⟩ : ByteArray).extract 0 (min l.length 20) = ⟨(l.take 20).toArray⟩ := by
  rw [extract_list, List.drop_zero, Nat.sub_zero]
  have : l.take (min l.length 20) = l.take 20 := by
    rcases Nat.le_total l.length 20 with h | h
    · rw [Nat.min_eq_left h, List.take_of_length_le (Nat.le_refl _), List.take_of_length_le h]
    · rw [Nat.min_eq_right h]
  rw [this]
set_option maxRecDepth 100000 in
set_option maxHeartbeats 4000000 in
theorem recs_any (w : World) (a : Option Addr) (n c : Nat) (R : List Rec) (h : RowsAt w a n c 4 (recsCells R)) (hR : n = R.length) (hok : ∀ r ∈ R, r.ok) (most : Nat) (hm : most ≤ 1000) :
    Calls Try.prog 14 #[.slice a n c, .int .i64 most] w (RecsEnd (cutRecs most R) w) := by
  have HH := Lib.hid h
  have HN := Lib.hid hR
  have HO := Lib.hid hok
  have hn : n ≤ 9223372036854775807 := h.max
  clear h hR hok
  go_enter Try.func14, Try.ntmps14
  go_wp2_with fail
  go_loopw [5, 6, 7] (fun s5 s6 _ wr => ∃ i : Nat, i ≤ n ∧ i ≤ most ∧ s6 = .int .i64 i ∧ wr.ownsRow w.heap.size 58 4 s5 i (recsCells ((R.take i).map cutRec)) ∧ Below w.heap.size w wr) (fun _ s6 _ _ => n - (intOf s6).toNat)
  case atStart => exact ⟨0, by omega, by omega, rfl, ⟨rfl, .inl ⟨rfl, rfl⟩⟩, Below.refl _ _⟩
  case round =>
    obtain ⟨i, hi, him, rfl, hown, hb⟩ := hrel
    have hsz := hb.size
    by_cases hlt : i < n ∧ i < most
    · obtain ⟨hlt, hlm⟩ := hlt
      have hil : (i : Int) < (n : Int) := by omega
      have hml : (i : Int) < (most : Int) := by omega
      obtain ⟨r, g, o, hr, hrl, rfl, hg, d0, d1, d2, d3⟩ := recs_row (HH.out.on hb) HN.out hlt
      obtain ⟨rk, rl, rd, rv⟩ := r
      simp only at d0 d1 d2 d3
      have HK := Lib.hid (HO.out _ hrl)
      have HNext := Lib.hid (show (R.take (i + 1)).map cutRec = (R.take i).map cutRec ++ [⟨rk.take 20, rl, rd, rv.take 20⟩] by rw [List.take_add_one, hr]; simp [cutRec])
      have hBn := (Below.refl wr.heap.size wr).alloc (Nat.le_refl _) (.cells #[.string ⟨rk.toArray⟩, .int .u64 (rl : Nat), .bool rd, .string ⟨rv.toArray⟩] 58)
      have HLt := Lib.hid (show ∀ x, u5.ownBlock = some x → w.heap.size ≤ x ∧ x < wr.heap.size from hown.lt)
      have hA : Blk (wr.alloc (.cells #[.string ⟨rk.toArray⟩, .int .u64 (rl : Nat), .bool rd, .string ⟨rv.toArray⟩] 58)) wr.heap.size [.string ⟨rk.toArray⟩, .int .u64 (rl : Nat), .bool rd, .string ⟨rv.toArray⟩] 58 := Blk.new wr [.string ⟨rk.toArray⟩, .int .u64 (rl : Nat), .bool rd, .string ⟨rv.toArray⟩] 58
      have hO2 := hown.alloc (.cells #[.string ⟨rk.toArray⟩, .int .u64 (rl : Nat), .bool rd, .string ⟨rv.toArray⟩] 58)
      have HBn := Lib.hid (hb.trans (hBn.mono hb.size))
      have HA := Lib.hid hA
      have HO2 := Lib.hid hO2
      clear hA hO2 hown hb hBn hr hrl
      go_upto_region 6 with fail
      generalize hw2 : wr.alloc (.cells #[.string ⟨rk.toArray⟩, .int .u64 (rl : Nat), .bool rd, .string ⟨rv.toArray⟩] 58) = w2 at *
      have hw2s : w2.heap.size = wr.heap.size + 1 := by rw [← hw2]; simp
      clear hw2 d0 d1 d2 d3
      have k0 : w2.cell? ⟨wr.heap.size, 0, none⟩ = some (.string ⟨rk.toArray⟩) := by rw [HA.out.cell]; rfl
      have f0 := HA.out.free 0
      have m0 := min_run rk.length
      have x0 := take_min rk
      have hA3 := HA.out.set 0 (.string ⟨(rk.take 20).toArray⟩)
      have k3 : (w2.setCell ⟨wr.heap.size, 0, none⟩ (.string ⟨(rk.take 20).toArray⟩)).cell? ⟨wr.heap.size, 3, none⟩ = some (.string ⟨rv.toArray⟩) := by rw [hA3.cell]; rfl
      have f3 := hA3.free 3
      have m3 := min_run rv.length
      have x3 := take_min rv
      have hA4 := hA3.set 3 (.string ⟨(rv.take 20).toArray⟩)
      have hm4 : Mod [wr.heap.size] w2 ((w2.setCell ⟨wr.heap.size, 0, none⟩ (.string ⟨(rk.take 20).toArray⟩)).setCell ⟨wr.heap.size, 3, none⟩ (.string ⟨(rv.take 20).toArray⟩)) := ((Mod.refl _ _).setCell _ _ (.inl (by simp))).setCell _ _ (.inl (by simp))
      have HA4 := Lib.hid hA4
      have HM4 := Lib.hid hm4
      have b0 : min rk.length 20 ≤ rk.length := Nat.min_le_left _ _
      have b3 : min rv.length 20 ≤ rv.length := Nat.min_le_left _ _
      have X0 := Lib.hid x0
      have X3 := Lib.hid x3
      clear hA3 hA4 hm4 x0 x3
      generalize min rk.length 20 = p at *
      generalize min rv.length 20 = q at *
      go_upto_region 7 with fail
      rw [X0.out]
      go_upto_region 8 with fail
      rw [X3.out]
      clear k0 f0 k3 f3 m0 m3 b0 b3
      generalize (w2.setCell ⟨wr.heap.size, 0, none⟩ (.string ⟨(rk.take 20).toArray⟩)).setCell ⟨wr.heap.size, 3, none⟩ (.string ⟨(rv.take 20).toArray⟩) = w4 at *
      have e0 : w4.cell? ⟨wr.heap.size, 0, none⟩ = some (.string ⟨(rk.take 20).toArray⟩) := by rw [HA4.out.cell]; rfl
      have e1 : w4.cell? ⟨wr.heap.size, 1, none⟩ = some (.int .u64 (rl : Nat)) := by rw [HA4.out.cell]; rfl
      have e2 : w4.cell? ⟨wr.heap.size, 2, none⟩ = some (.bool rd) := by rw [HA4.out.cell]; rfl
      have e3 : w4.cell? ⟨wr.heap.size, 3, none⟩ = some (.string ⟨(rv.take 20).toArray⟩) := by rw [HA4.out.cell]; rfl
      have ho4 : w4.ownsRow w.heap.size 58 4 u5 i (recsCells ((R.take i).map cutRec)) := ownsRow_mod HO2.out HM4.out (fun x hx e => by have := (HLt.out x e).2; simp at hx; omega)
      have hb4 := HBn.out.trans (HM4.out.below (fun x hx => by simp at hx; omega) HBn.out.size)
      have hbn := (Below.refl w4.heap.size w4).alloc (Nat.le_refl _) (.cells #[.string ⟨(rk.take 20).toArray⟩, .int .u64 (rl : Nat), .bool rd, .string ⟨(rv.take 20).toArray⟩] 58)
      have hN : Blk (w4.alloc (.cells #[.string ⟨(rk.take 20).toArray⟩, .int .u64 (rl : Nat), .bool rd, .string ⟨(rv.take 20).toArray⟩] 58)) w4.heap.size (recsCells [⟨rk.take 20, rl, rd, rv.take 20⟩]) 58 := Blk.new w4 [.string ⟨(rk.take 20).toArray⟩, .int .u64 (rl : Nat), .bool rd, .string ⟨(rv.take 20).toArray⟩] 58
      obtain ⟨v', w', hrun, hown', hmod, hblk⟩ := own_append 38 58 38 _ 4 48 Try.underlying38 info_rec rfl (by decide) (by decide) (ho4.alloc (.cells #[.string ⟨(rk.take 20).toArray⟩, .int .u64 (rl : Nat), .bool rd, .string ⟨(rv.take 20).toArray⟩] 58))
        (by omega) (by have := hb4.size; simp; omega) ⟨w4.heap.size, 0, none⟩ 1 1 (recsCells [⟨rk.take 20, rl, rd, rv.take 20⟩]) (by omega) (by omega) rfl
        (fun k u hk => by rw [addr_add', Nat.zero_add, hN.cell]; exact hk) (recs_one _)
      rw [← recs_append, ← HNext.out] at hown'
      have HOwn' := Lib.hid hown'
      have HM := Lib.hid (show Below w.heap.size w w' from by
        refine hb4.trans (((Mod.of_below hbn).trans hmod).below (fun x hx => ?_) hb4.size)
        exact (HLt.out x (by simpa using hx)).1)
      clear hown' hmod hblk hbn ho4 hb4 hN
      go_wp2_with (at_builtin; (with_reducible refine wpList_append_run rfl _ _ _ rfl _ _ _ _ ?_ ?_ hrun ?_); rfl; rfl)
      go_roundw
      case rel => exact ⟨i + 1, by omega, by omega, by go_num, HOwn'.out, HM.out⟩
      case measure => simp [intOf]; omega
    · have HE := Lib.hid (show RecsEnd (cutRecs most R) w (.returned u5) wr from by
        obtain ⟨a, c, rfl⟩ := own_slice hown
        obtain ⟨h1, h2⟩ := own_rows hown
        have h3 := hown.lt
        have e : R.take i = R.take most := by
          have hn' := HN.out
          rcases Nat.lt_or_ge i n with h3 | h3
          · rw [show i = most by omega]
          · rw [List.take_of_length_le (by omega), List.take_of_length_le (by omega)]
        have hl : i = (cutRecs most R).length := by
          unfold cutRecs
          rw [List.length_map, ← e, List.length_take]
          have hn' := HN.out
          omega
        rw [e, show (R.take most).map cutRec = cutRecs most R from rfl] at h1
        subst hl
        exact ⟨a, c, rfl, h1, (fun g o e => h3 g (by rw [e]; rfl)), hb⟩)
      clear hown hb
      by_cases h1 : i < n
      · have hil : (i : Int) < (n : Int) := by omega
        have hml : ¬ (i : Int) < (most : Int) := by omega
        go_wp2_with fail
        go_ret
        exact HE.out
      · have hil : ¬ (i : Int) < (n : Int) := by omega
        go_wp2_with fail
        go_ret
        exact HE.out
end Go.Proofs.Ytffianjbljgnaaa

/-! ### CutE -/
namespace Go.Proofs.Ytffianjbljgnaaa
set_option linter.unusedVariables false
set_option linter.unusedSimpArgs false
open Go.RowKit

def cutEntry (x : Entry) : Entry := ⟨x.ts, x.first, cutRecs 8 x.ops⟩
def cutEntries (L : List Entry) : List Entry := (L.take 30).map cutEntry
theorem cutRec_ok {r : Rec} (h : r.ok) : (cutRec r).ok := by
  refine ⟨?_, ?_, h.2.2⟩
  · have := h.1
    show (r.key.take 20).length ≤ maxLen
    rw [List.length_take]; omega
  · have := h.2.1
    show (r.val.take 20).length ≤ maxLen
    rw [List.length_take]; omega
theorem cutRecs_ok {R : List Rec} {most : Nat} (h : ∀ r ∈ R, r.ok) : ∀ r ∈ cutRecs most R, r.ok := by
  intro r hr
  obtain ⟨q, hq, rfl⟩ := List.mem_map.1 hr
  exact cutRec_ok (h q (List.mem_of_mem_take hq))
theorem cutRecs_length (most : Nat) (R : List Rec) : (cutRecs most R).length ≤ most := by
  unfold cutRecs
  rw [List.length_map, List.length_take]
  omega
theorem cutEntry_ok {x : Entry} (h : x.ok) : (cutEntry x).ok := ⟨h.ts, h.first, cutRecs_ok h.ops⟩
theorem ents_one (l : List Ent) : ∀ u ∈ entsCells l, u.oneCell' = true := by
  intro u hu
  unfold entsCells at hu
  obtain ⟨r, _, hr⟩ := List.mem_flatMap.1 hu
  simp only [entCells, List.mem_cons, List.not_mem_nil, or_false] at hr
  rcases hr with rfl | rfl | rfl <;> rfl
/-- What a row of entries ends with. -/
def EntsEnd (L : List Entry) (w : World) (e : Ending) (w' : World) : Prop :=
  ∃ (a : Option Addr) (c : Nat) (z : List EZ), e = .returned (.slice a L.length c) ∧ EntsAt w' a L.length c z ∧ z.map (·.2) = L ∧ (∀ g o, a = some ⟨g, o, none⟩ → w.heap.size ≤ g) ∧ (∀ q ∈ z, ∀ g o, q.1.a = some ⟨g, o, none⟩ → w.heap.size ≤ g) ∧ Below w.heap.size w w'
/-- Entries that a loop has gathered in a row that it owns. -/
structure Gather (w0 w : World) (v : Value) (i : Nat) (zs : List EZ) (L : List Entry) : Prop where
  len : zs.length = i
  own : w.ownsRow w0.heap.size 40 3 v i (entsCells (zs.map (·.1)))
  is : zs.map (·.2) = L
  each : ∀ q ∈ zs, EntIs w q.1 q.2
  fresh : ∀ q ∈ zs, ∀ g o, q.1.a = some ⟨g, o, none⟩ → w0.heap.size ≤ g
  apart : ∀ q ∈ zs, ∀ g o, q.1.a = some ⟨g, o, none⟩ → v.ownBlock ≠ some g
  below : Below w0.heap.size w0 w
theorem Gather.start (w0 : World) : Gather w0 w0 (.slice none 0 0) 0 [] [] := ⟨rfl, ⟨rfl, .inl ⟨rfl, rfl⟩⟩, rfl, by simp, by simp, by simp, Below.refl _ _⟩
theorem Gather.stop {w0 w : World} {v : Value} {i : Nat} {zs : List EZ} {L : List Entry} (h : Gather w0 w v i zs L) : EntsEnd L w0 (.returned v) w := by
  obtain ⟨a, c, rfl⟩ := own_slice h.own
  obtain ⟨h1, h2⟩ := own_rows h.own
  have hl : i = L.length := by rw [← h.is, List.length_map, h.len]
  subst hl
  exact ⟨a, c, zs, rfl, ⟨h.len, h1, h.each⟩, h.is, h2, h.fresh, h.below⟩
theorem Gather.mod {S : List Nat} {w0 w w' : World} {v : Value} {i : Nat} {zs : List EZ} {L : List Entry} (h : Gather w0 w v i zs L) (hm : Mod S w w') (hS : ∀ x ∈ S, w.heap.size ≤ x) (hlt : ∀ p ∈ zs, ∀ g o, p.1.a = some ⟨g, o, none⟩ → g < w.heap.size) : Gather w0 w' v i zs L :=
  ⟨h.len, ownsRow_mod h.own hm (fun s hs e => by have := (h.own.lt s e).2; have := hS s hs; omega), h.is, fun q hq => (h.each q hq).mod hm (fun g o e hx => by have := hlt q hq g o e; have := hS g hx; omega), h.fresh, h.apart, h.below.trans (hm.below (fun x hx => by have := hS x hx; have := h.below.size; omega) h.below.size)⟩
theorem Gather.put {w0 w : World} {v : Value} {i : Nat} {zs : List EZ} {L : List Entry} (h : Gather w0 w v i zs L) (hi : i ≤ 1000000) (q : EZ) (hq : EntIs w q.1 q.2) (hf : ∀ g o, q.1.a = some ⟨g, o, none⟩ → w0.heap.size ≤ g) (ha : ∀ g o, q.1.a = some ⟨g, o, none⟩ → v.ownBlock ≠ some g ∧ g < w.heap.size) (ty : TypeId)
    (hlt : ∀ p ∈ zs, ∀ g o, p.1.a = some ⟨g, o, none⟩ → g < w.heap.size) :
    ∃ v' w', (Builtin.append_ #[25, 25] ty #[v, .slice (some ⟨w.heap.size, 0, none⟩) 1 1]).run Try.prog (w.alloc (.cells (entCells q.1).toArray 40)) = .ok v' w' ∧ Gather w0 w' v' (i + 1) (zs ++ [q]) (L ++ [q.2]) ∧ w.heap.size ≤ w'.heap.size := by
  have hbn := (Below.refl w.heap.size w).alloc (Nat.le_refl _) (.cells (entCells q.1).toArray 40)
  have hN : Blk (w.alloc (.cells (entCells q.1).toArray 40)) w.heap.size (entCells q.1) 40 := Blk.new w (entCells q.1) 40
  obtain ⟨v', w', hrun, hown', hmod, hblk⟩ := own_append 25 40 ty _ 3 40 Try.underlying25 info_entry rfl (by decide) (by decide) (h.own.alloc (.cells (entCells q.1).toArray 40))
    hi (by have := h.below.size; simp; omega) ⟨w.heap.size, 0, none⟩ 1 1 (entsCells [q.1]) (by omega) (by omega) rfl
    (fun k u hk => by rw [addr_add', Nat.zero_add, hN.cell]; simpa [entsCells] using hk) (ents_one _)
  have hm : Mod v.ownBlock.toList w w' := (Mod.of_below hbn).trans hmod
  have hoff : ∀ p ∈ zs ++ [q], Off v.ownBlock.toList p.1.a := by
    intro p hp g o e hx
    rcases List.mem_append.1 hp with hp | hp
    · exact h.apart p hp g o e (by simpa using hx)
    · simp only [List.mem_cons, List.not_mem_nil, or_false] at hp
      subst hp
      exact (ha g o e).1 (by simpa using hx)
  refine ⟨v', w', hrun, ⟨by simp [h.len], ?_, by simp [h.is], ?_, ?_, ?_, ?_⟩, hm.size⟩
  · rw [List.map_append, ents_append]; exact hown'
  · intro p hp
    rcases List.mem_append.1 hp with hp' | hp'
    · exact (h.each p hp').mod hm (hoff p hp)
    · simp only [List.mem_cons, List.not_mem_nil, or_false] at hp'
      subst hp'
      exact hq.mod hm (hoff p hp)
  · intro p hp
    rcases List.mem_append.1 hp with hp | hp
    · exact h.fresh p hp
    · simp only [List.mem_cons, List.not_mem_nil, or_false] at hp
      subst hp
      exact hf
  · intro p hp g o e hx
    rcases hblk g hx with h1 | h1
    · exact hoff p hp g o e (by simpa using h1)
    · rw [World.size_alloc] at h1
      rcases List.mem_append.1 hp with hp | hp
      · have := hlt p hp g o e; omega
      · simp only [List.mem_cons, List.not_mem_nil, or_false] at hp
        subst hp
        have := (ha g o e).2; omega
  · exact h.below.trans (hm.below (fun x hx => (h.own.lt x (by simpa using hx)).1) h.below.size)
set_option maxRecDepth 100000 in
set_option maxHeartbeats 4000000 in
theorem entries_any (w : World) (a : Option Addr) (n c : Nat) (z : List EZ) (h : EntsAt w a n c z) :
    Calls Try.prog 13 #[.slice a n c] w (EntsEnd (cutEntries (z.map (·.2))) w) := by
  have HH := Lib.hid h
  have hn : n ≤ 9223372036854775807 := h.rows.max
  clear h
  go_enter Try.func13, Try.ntmps13
  go_wp2_with fail
  go_loopw [3, 4, 5] (fun s3 s4 _ wr => ∃ (i : Nat) (zs : List EZ), i ≤ n ∧ i ≤ 30 ∧ s4 = .int .i64 i ∧ Gather w wr s3 i zs (((z.map (·.2)).take i).map cutEntry) ∧ (∀ p ∈ zs, ∀ g o, p.1.a = some ⟨g, o, none⟩ → g < wr.heap.size)) (fun _ s4 _ _ => n - (intOf s4).toNat)
  case atStart => exact ⟨0, [], by omega, by omega, rfl, Gather.start w, by simp⟩
  case round =>
    obtain ⟨i, zs, hi, him, rfl, hG, hL⟩ := hrel
    have hsz := hG.below.size
    have HG := Lib.hid hG
    have HL := Lib.hid hL
    clear hG hL
    by_cases hlt : i < n ∧ i < 30
    · obtain ⟨hlt, hlm⟩ := hlt
      have hil : (i : Int) < (n : Int) := by omega
      have hml : (i : Int) < 30 := by omega
      obtain ⟨q, g, o, hq, hqz, rfl, hg, c0, c1, c2⟩ := (HH.out.on HG.out.below).row hlt
      have HQ := Lib.hid ((HH.out.on HG.out.below).each q hqz)
      obtain ⟨⟨ts, first, qa, qn, qc⟩, x⟩ := q
      simp only at c0 c1 c2
      have HNext := Lib.hid (show ((z.map (·.2)).take (i + 1)).map cutEntry = ((z.map (·.2)).take i).map cutEntry ++ [cutEntry x] by rw [List.take_add_one, List.getElem?_map, hq]; simp)
      have hbn := (Below.refl wr.heap.size wr).alloc (Nat.le_refl _) (.cells #[.int .u64 (ts : Nat), .int .u64 (first : Nat), .slice qa qn qc] 40)
      have hA : Blk (wr.alloc (.cells #[.int .u64 (ts : Nat), .int .u64 (first : Nat), .slice qa qn qc] 40)) wr.heap.size [.int .u64 (ts : Nat), .int .u64 (first : Nat), .slice qa qn qc] 40 := Blk.new wr [.int .u64 (ts : Nat), .int .u64 (first : Nat), .slice qa qn qc] 40
      have HA := Lib.hid hA
      have HBn := Lib.hid hbn
      have HQ2 := Lib.hid (HQ.out.on hbn)
      clear hA hbn hq hqz
      go_upto_region 6 with fail
      generalize hw2 : wr.alloc (.cells #[.int .u64 (ts : Nat), .int .u64 (first : Nat), .slice qa qn qc] 40) = w2 at *
      have hw2s : w2.heap.size = wr.heap.size + 1 := by rw [← hw2]; simp
      clear hw2 c0 c1 c2
      have k2 : w2.cell? ⟨wr.heap.size, 2, none⟩ = some (.slice qa qn qc) := by rw [HA.out.cell]; rfl
      have HR := Lib.hid (recs_any w2 qa qn qc x.ops HQ2.out.rows HQ2.out.n HQ2.out.ok.ops 8 (by omega))
      go_wp2_with fail
      refine HR.out.mono ?_
      rintro e w3 ⟨ra, rc, rfl, hrow, hfr, hb3⟩
      have hA3 := HA.out.on hb3
      have hA4 := hA3.set 2 (.slice ra (cutRecs 8 x.ops).length rc)
      have hm4 : Mod [wr.heap.size] w3 (w3.setCell ⟨wr.heap.size, 2, none⟩ (.slice ra (cutRecs 8 x.ops).length rc)) := (Mod.refl _ _).setCell _ _ (.inl (by simp))
      have f2 := hA3.free 2
      have g2 : w3.cell? ⟨wr.heap.size, 2, none⟩ = some (.slice qa qn qc) := by rw [hA3.cell]; rfl
      have hs3 := hb3.size
      have hm := ((Mod.of_below (S := [wr.heap.size]) (HBn.out.trans (hb3.mono (by omega)))).trans hm4)
      have hR4 := hrow.mod hm4 (fun gg oo e hx => by have := hfr gg oo e; simp at hx; omega)
      have HG4 := HG.out.mod hm (fun x hx => by simp at hx; omega) HL.out
      have hlz : ∀ p ∈ zs, ∀ gg oo, p.1.a = some ⟨gg, oo, none⟩ → gg < (w3.setCell ⟨wr.heap.size, 2, none⟩ (.slice ra (cutRecs 8 x.ops).length rc)).heap.size := fun p hp gg oo e => by
        have := HL.out p hp gg oo e
        have := hm.size
        omega
      obtain ⟨v', w', hrun, hG', hs'⟩ := HG4.put (by omega) (⟨ts, first, ra, (cutRecs 8 x.ops).length, rc⟩, cutEntry x) ⟨HQ.out.ts, HQ.out.first, rfl, hR4, cutEntry_ok HQ.out.ok⟩
        (fun gg oo e => by have := hfr gg oo e; omega) (fun gg oo e => ⟨fun hx => by have := hfr gg oo e; have := (HG.out.own.lt gg hx).2; omega, by have := hfr gg oo e; have := hm4.size; omega⟩) 25 hlz
      rw [← HNext.out] at hG'
      have HL' := Lib.hid (show ∀ p ∈ zs ++ [((⟨ts, first, ra, (cutRecs 8 x.ops).length, rc⟩ : Ent), cutEntry x)], ∀ gg oo, p.1.a = some ⟨gg, oo, none⟩ → gg < w'.heap.size from fun p hp gg oo e => by
        rcases List.mem_append.1 hp with hp | hp
        · have := hlz p hp gg oo e; omega
        · simp only [List.mem_cons, List.not_mem_nil, or_false] at hp
          subst hp
          have := hfr gg oo e; have := hm4.size; omega)
      have HG' := Lib.hid hG'
      have e0 : (w3.setCell ⟨wr.heap.size, 2, none⟩ (.slice ra (cutRecs 8 x.ops).length rc)).cell? ⟨wr.heap.size, 0, none⟩ = some (.int .u64 (ts : Nat)) := by rw [hA4.cell]; rfl
      have e1 : (w3.setCell ⟨wr.heap.size, 2, none⟩ (.slice ra (cutRecs 8 x.ops).length rc)).cell? ⟨wr.heap.size, 1, none⟩ = some (.int .u64 (first : Nat)) := by rw [hA4.cell]; rfl
      have e2 : (w3.setCell ⟨wr.heap.size, 2, none⟩ (.slice ra (cutRecs 8 x.ops).length rc)).cell? ⟨wr.heap.size, 2, none⟩ = some (.slice ra (cutRecs 8 x.ops).length rc) := by rw [hA4.cell]; rfl
      clear hA3 hA4 hm4 hm hR4 HG4 hlz hG' hrow hfr hb3 hs3 hs'
      go_upto_region 7 with fail
      clear f2 g2 k2
      have hrun' : (Builtin.append_ #[25, 25] 25 #[u3, .slice (some ⟨(w3.setCell ⟨wr.heap.size, 2, none⟩ (.slice ra (cutRecs 8 x.ops).length rc)).heap.size, 0, none⟩) 1 1]).run Try.prog ((w3.setCell ⟨wr.heap.size, 2, none⟩ (.slice ra (cutRecs 8 x.ops).length rc)).alloc (.cells #[.int .u64 (ts : Nat), .int .u64 (first : Nat), .slice ra (cutRecs 8 x.ops).length rc] 40)) = .ok v' w' := hrun
      clear hrun
      generalize w3.setCell ⟨wr.heap.size, 2, none⟩ (.slice ra (cutRecs 8 x.ops).length rc) = w4 at *
      go_wp2_with (at_builtin; (with_reducible refine wpList_append_run rfl _ _ _ rfl _ _ _ _ ?_ ?_ hrun' ?_); rfl; rfl)
      go_roundw
      case rel => exact ⟨i + 1, _, by omega, by omega, by go_num, HG'.out, HL'.out⟩
      case measure => simp [intOf]; omega
    · have HE := Lib.hid (show EntsEnd (cutEntries (z.map (·.2))) w (.returned u3) wr from by
        have hl := HH.out.len
        have e : (z.map (·.2)).take i = (z.map (·.2)).take 30 := by
          rcases Nat.lt_or_ge i n with h3 | h3
          · rw [show i = 30 by omega]
          · rw [List.take_of_length_le (by rw [List.length_map]; omega), List.take_of_length_le (by rw [List.length_map]; omega)]
        have := HG.out.stop
        rw [e] at this
        exact this)
      by_cases h1 : i < n
      · have hil : (i : Int) < (n : Int) := by omega
        have hml : ¬ (i : Int) < 30 := by omega
        go_wp2_with fail
        go_ret
        exact HE.out
      · have hil : ¬ (i : Int) < (n : Int) := by omega
        go_wp2_with fail
        go_ret
        exact HE.out
end Go.Proofs.Ytffianjbljgnaaa

/-! ### Work27a -/
namespace Go.Proofs.Ytffianjbljgnaaa
set_option linter.unusedVariables false
set_option linter.unusedSimpArgs false
open Go.RowKit Go.Maps

def mkC (ts : Nat) (n kind : Int) (key val : Txt) : Md := ⟨ts, n, kind, ts, key, [], val, true, ts, n, 0, false, [], none, 0, 0, n, n⟩
def mkF (ts : Nat) (n : Int) (key val : Txt) : Md := ⟨ts, n, 1, ts, key, [], [], true, ts, n, 0, true, val, none, 0, 0, n, n⟩
theorem results_made {fn : Func} {p : Tmp} (h : fn.results = #[.cell p 37]) (tmps : Array Value) {w : World} {b : Nat} {m : Md} (hp : tmps.getD p undef = .pointer (some ⟨b, 0, none⟩)) (hE : Blk w b (mdCells m) 37) :
    (results fn tmps).run Try.prog w = .ok (.agg (mdCells m).toArray) w :=
  results_cell_row h tmps w b 37 _ (0, 0) _ hp hE Try.underlying37 rfl (by kernel_rfl)
section
variable {ops : Array Oper} {rest : List Oper} {op : Oper} {a : Act} {w : World} {Q : Exit → Act → World → Prop}
/-- A call's cells, laid over a block of calls. -/
theorem wpList_storeB (hgd : op.guard = none) (x y : Operand) (ho : op.op = .store 37 x y) (g : Nat) (C : List Value) (m : Md) (hb : Blk w g C 37) (hC : C.length = 16) (hx : a.eval x = .pointer (some ⟨g, 0, none⟩)) (hy : a.eval y = .agg (mdCells m).toArray)
    (h : wpList Try.prog ops Q rest (a.put op.dst undef) (w.setRow g (mdCells m).toArray)) : wpList Try.prog ops Q (op :: rest) a w :=
  wpList_store_row hgd 37 x y ho g (mdCells m).toArray hx hy 37 C.toArray hb (by kernel_rfl) (by rw [List.size_toArray, hC]; rfl) (by simp [mdCells, Value.oneCell']) h
end
set_option maxRecDepth 100000 in
set_option maxHeartbeats 2000000 in
theorem callM_any (ts : Nat) (n kind : Int) (key val : Txt) (w : World) :
    Calls Try.prog 22 #[.int .u64 (ts : Nat), .int .i64 n, .int .i64 kind, .string ⟨key.toArray⟩, .string ⟨val.toArray⟩] w fun e w' => e = .returned (.agg (mdCells (mkC ts n kind key val)).toArray) ∧ Below w.heap.size w w' := by
  have HB := Lib.hid ((Below.refl w.heap.size w).alloc (Nat.le_refl _) (.cells (mdCells (mkC ts n kind key val)).toArray 37))
  have HBk := Lib.hid (Blk.new w (mdCells (mkC ts n kind key val)) 37)
  go_enter Try.func22, Try.ntmps22
  go_wp2_with ((with_reducible refine wpList_storeM rfl _ _ rfl _ (mkC ts n kind key val) ?_ ?_ ?_); rfl; rfl)
  exact bodyPost_ret (results_made rfl _ rfl HBk.out) rfl ⟨rfl, HB.out⟩
set_option maxRecDepth 100000 in
set_option maxHeartbeats 4000000 in
theorem foundM_any (ts : Nat) (n : Int) (key val : Txt) (w : World) :
    Calls Try.prog 24 #[.int .u64 (ts : Nat), .int .i64 n, .string ⟨key.toArray⟩, .string ⟨val.toArray⟩] w fun e w' => e = .returned (.agg (mdCells (mkF ts n key val)).toArray) ∧ Below w.heap.size w w' := by
  have hz := Blk.new w [.int .u64 0, .int .i64 0, .int .i64 0, .int .u64 0, .string ⟨#[]⟩, .string ⟨#[]⟩, .string ⟨#[]⟩, .bool false, .int .u64 0, .int .i64 0, .int .i64 0, .bool false, .string ⟨#[]⟩, .slice none 0 0, .int .i64 0, .int .i64 0] 37
  have hb0 := (Below.refl w.heap.size w).alloc (Nat.le_refl _) (.cells [Value.int .u64 0, .int .i64 0, .int .i64 0, .int .u64 0, .string ⟨#[]⟩, .string ⟨#[]⟩, .string ⟨#[]⟩, .bool false, .int .u64 0, .int .i64 0, .int .i64 0, .bool false, .string ⟨#[]⟩, .slice none 0 0, .int .i64 0, .int .i64 0].toArray 37)
  have hC := fun w' => callM_any ts n 1 key [] w'
  have HC := Lib.hid hC
  clear hC
  go_enter Try.func24, Try.ntmps24
  go_wp2_with fail
  refine (HC.out _).mono ?_
  rintro e w1 ⟨rfl, hb1⟩
  have hz1 := hz.on hb1
  have hbw := hb0.trans (hb1.mono hb0.size)
  have HMk := Lib.hid (Blk.new w1 (mdCells (mkC ts n 1 key [])) 37)
  have hbn := (Below.refl w1.heap.size w1).alloc (Nat.le_refl _) (.cells (mdCells (mkC ts n 1 key [])).toArray 37)
  have HZ := Lib.hid (hz1.on hbn)
  have HB := Lib.hid (hbw.trans (hbn.mono hbw.size))
  have hsz := hb1.size
  rw [World.size_alloc] at hsz
  clear hz hb0 hb1 hz1 hbw hbn
  go_upto_region 2 with (first | ((with_reducible refine wpList_storeM rfl _ _ rfl _ (mkC ts n 1 key []) ?_ ?_ ?_); rfl; rfl))
  go_frame
  generalize hw2 : w1.alloc (.cells (mdCells (mkC ts n 1 key [])).toArray 37) = w2 at *
  clear hw2
  have hA := HMk.out
  have hA2 := hA.set 11 (.bool true)
  have hA3 := hA2.set 12 (.string ⟨val.toArray⟩)
  have hm3 : Mod [w1.heap.size] w2 ((w2.setCell ⟨w1.heap.size, 11, none⟩ (.bool true)).setCell ⟨w1.heap.size, 12, none⟩ (.string ⟨val.toArray⟩)) := ((Mod.refl _ _).setCell _ _ (.inl (by simp))).setCell _ _ (.inl (by simp))
  have hl3 : MdCellsAt ((w2.setCell ⟨w1.heap.size, 11, none⟩ (.bool true)).setCell ⟨w1.heap.size, 12, none⟩ (.string ⟨val.toArray⟩)) w1.heap.size 0 (mkF ts n key val) := by
    refine ⟨?_, ?_, ?_, ?_, ?_, ?_, ?_, ?_, ?_, ?_, ?_, ?_, ?_, ?_, ?_, ?_⟩ <;> (rw [hA3.cell]; rfl)
  have hz3 := HZ.out.mod hm3 (by simp; omega)
  have HB3 := Lib.hid (show Below w.heap.size w ((w2.setCell ⟨w1.heap.size, 11, none⟩ (.bool true)).setCell ⟨w1.heap.size, 12, none⟩ (.string ⟨val.toArray⟩)) from HB.out.trans (hm3.below (fun x hx => by simp at hx; omega) HB.out.size))
  have f0 := hA.free 11
  have f1 := hA2.free 12
  have g0 : w2.cell? ⟨w1.heap.size, 11, none⟩ = some (.bool false) := by rw [hA.cell]; rfl
  have g1 : (w2.setCell ⟨w1.heap.size, 11, none⟩ (.bool true)).cell? ⟨w1.heap.size, 12, none⟩ = some (.string ⟨#[]⟩) := by rw [hA2.cell]; rfl
  have HL3 := Lib.hid hl3
  have HZ3 := Lib.hid hz3
  clear hA hA2 hA3 hm3 hl3 hz3
  go_upto_region 4 with fail
  clear f0 f1 g0 g1
  generalize (w2.setCell ⟨w1.heap.size, 11, none⟩ (.bool true)).setCell ⟨w1.heap.size, 12, none⟩ (.string ⟨val.toArray⟩) = w3 at *
  have HE := Lib.hid (setRow_blk HZ3.out (mdCells (mkF ts n key val)))
  have HM := Lib.hid (show Below w.heap.size w (w3.setRow w.heap.size (mdCells (mkF ts n key val)).toArray) from HB3.out.trans ((setRow_mod w3 w.heap.size (mdCells (mkF ts n key val)).toArray).below (fun x hx => by simp at hx; omega) HB3.out.size))
  go_wp2_with (first | ((with_reducible refine wpList_loadM rfl _ rfl _ _ _ HL3.out ?_ ?_); rfl) | ((with_reducible refine wpList_storeB rfl _ _ rfl _ _ (mkF ts n key val) HZ3.out rfl ?_ ?_ ?_); rfl; rfl))
  exact bodyPost_ret (results_made rfl _ rfl HE.out) rfl ⟨rfl, HM.out⟩
theorem info_made0 : ∃ ie z, Try.prog.info? 37 = some ie ∧ ie.zero = some z ∧ ie.size = 16 ∧ z.cells = #[.int .u64 0, .int .i64 0, .int .i64 0, .int .u64 0, .string ⟨#[]⟩, .string ⟨#[]⟩, .string ⟨#[]⟩, .bool false, .int .u64 0, .int .i64 0, .int .i64 0, .bool false, .string ⟨#[]⟩, .slice none 0 0, .int .i64 0, .int .i64 0] := by
  have h : (Try.prog.info? 37).map (fun i => (i.zero, i.size)) = some (some (.agg #[.int .u64 0, .int .i64 0, .int .i64 0, .int .u64 0, .string ⟨#[]⟩, .string ⟨#[]⟩, .string ⟨#[]⟩, .bool false, .int .u64 0, .int .i64 0, .int .i64 0, .bool false, .string ⟨#[]⟩, .slice none 0 0, .int .i64 0, .int .i64 0]), 16) := by kernel_rfl
  obtain ⟨i, hi, hzz⟩ := Option.map_eq_some_iff.1 h
  simp only [Prod.mk.injEq] at hzz
  exact ⟨i, _, hi, hzz.1, hzz.2, rfl⟩
section
variable {ops : Array Oper} {rest : List Oper} {o : Oper} {a : Act} {w : World} {Q : Exit → Act → World → Prop}
/-- A slice of four calls, built. -/
theorem wpList_buildM4 (hg : o.guard = none) (x0 x1 x2 x3 : Operand) (ho : o.op = .buildSlice 24 4 #[(0, x0), (1, x1), (2, x2), (3, x3)]) (m0 m1 m2 m3 : Md)
    (h0 : a.eval x0 = .agg (mdCells m0).toArray) (h1 : a.eval x1 = .agg (mdCells m1).toArray) (h2 : a.eval x2 = .agg (mdCells m2).toArray) (h3 : a.eval x3 = .agg (mdCells m3).toArray)
    (h : wpList Try.prog ops Q rest (a.put o.dst (.slice (some ⟨w.heap.size, 0, none⟩) 4 4)) (w.alloc (.cells (mdsCells [m0, m1, m2, m3]).toArray 37))) : wpList Try.prog ops Q (o :: rest) a w := by
  obtain ⟨ie, z, hie, hz, hs, hzc⟩ := info_made0
  refine wpList_buildSlice hg 24 37 4 _ ho (mdsCells [m0, m1, m2, m3]).toArray ie z Try.underlying24 hie hz (by rw [hs]; decide) (by rw [hs]; decide) ?_ h
  rw [hs, hzc]
  have e : (Array.map (fun x : Nat × Operand => (x.1, a.eval x.2)) #[(0, x0), (1, x1), (2, x2), (3, x3)]).toList = [(0, .agg (mdCells m0).toArray), (1, .agg (mdCells m1).toArray), (2, .agg (mdCells m2).toArray), (3, .agg (mdCells m3).toArray)] := by
    simp [h0, h1, h2, h3]
  refine Eq.trans (congrArg _ e) ?_
  kernel_rfl
end
/-- An append that grows the row: a new one is laid. -/
theorem append_new (t e ty : TypeId) (z : Value) (size bytes : Nat) (ht : Try.prog.underlying t = some (.slice e)) (hinf : (Try.prog.info? e).map (fun i => (i.zero, i.size, i.bytes)) = some (some z, size, bytes)) (hby : bytes ≤ 1000)
    {w : World} {g n cap : Nat} {cells : List Value} (hcl : cells.length = n * size) (hcells : ∀ j v, cells[j]? = some v → w.cell? ⟨g, j, none⟩ = some v) (hl : n ≤ 1000000)
    (a : Addr) (m c : Nat) (news : List Value) (hm : m ≤ 1000000) (hnl : news.length = m * size) (hnews : ∀ j u, news[j]? = some u → w.cell? (a.add j) = some u) (hg : cap < n + m) :
    ∃ c' w', (Builtin.append_ #[t, t] ty #[.slice (some ⟨g, 0, none⟩) n cap, .slice (some a) m c]).run Try.prog w = .ok (.slice (some ⟨w.heap.size, 0, none⟩) (n + m) c') w' ∧ RowsAt w' (some ⟨w.heap.size, 0, none⟩) (n + m) c' size (cells ++ news) ∧ Below w.heap.size w w' := by
  obtain ⟨i, hi, hz0, hz1, hz2⟩ := info_parts hinf
  have hbig : (n + m) * bytes ≤ 2000000 * 1000 := Nat.mul_le_mul (by omega) hby
  have hr := run_append_grow (P := Try.prog) (w := w) t ty e i z ht hi hz0 ⟨g, 0, none⟩ n cap cells (by rw [hz1]; exact hcl) (fun j v hv => by rw [addr_add', Nat.zero_add]; exact hcells j v hv) a m c news (by rw [hz1]; exact hnl) hnews hg (by omega) (by rw [hz2]; exact growslice_fits (by omega) (by omega))
  refine ⟨_, _, hr, ?_, (Below.refl _ _).drew.alloc (Nat.le_refl _) _⟩
  have hb := Blk.new w.drew ((cells ++ news) ++ (Builtin.zeroCells z.cells (grownCap w (n + m) cap e - (n + m))).toList) e
  have e1 : ((cells ++ news) ++ (Builtin.zeroCells z.cells (grownCap w (n + m) cap e - (n + m))).toList).toArray = cells.toArray ++ news.toArray ++ Builtin.zeroCells z.cells (grownCap w (n + m) cap e - (n + m)) := by
    apply Array.ext'
    simp
  rw [e1] at hb
  have hb2 : Blk (w.drew.alloc (.cells (cells.toArray ++ news.toArray ++ Builtin.zeroCells z.cells (grownCap w (n + m) cap e - (n + m))) e)) w.heap.size ((cells ++ news) ++ (Builtin.zeroCells z.cells (grownCap w (n + m) cap e - (n + m))).toList) e := hb
  exact RowsAt.of_blk hb2 (by rw [List.length_append, hcl, hnl, Nat.add_mul]) (grownCap_ge w (n + m) cap e) (by omega)
def mkE (ts : Nat) (key val : Txt) : Entry := ⟨ts, ts, [⟨key, ts, false, val⟩]⟩
theorem results_entry {fn : Func} {p : Tmp} (h : fn.results = #[.cell p 40]) (tmps : Array Value) {w : World} {b : Nat} {e : Ent} (hp : tmps.getD p undef = .pointer (some ⟨b, 0, none⟩)) (hE : Blk w b (entCells e) 40) :
    (results fn tmps).run Try.prog w = .ok (.agg (entCells e).toArray) w :=
  results_cell_row h tmps w b 40 _ (0, 0) _ hp hE Try.underlying40 rfl (by kernel_rfl)
/-- What write ends with. -/
def WriteEnd (x : Entry) (w : World) (e : Ending) (w' : World) : Prop := ∃ (a : Option Addr) (n c : Nat), e = .returned (.agg #[.int .u64 (x.ts : Nat), .int .u64 (x.first : Nat), .slice a n c]) ∧ EntIs w' ⟨x.ts, x.first, a, n, c⟩ x ∧ (∀ g o, a = some ⟨g, o, none⟩ → w.heap.size ≤ g) ∧ Below w.heap.size w w'
set_option maxRecDepth 100000 in
set_option maxHeartbeats 2000000 in
theorem writeE_any (ts : Nat) (key val : Txt) (hts : ts < 18446744073709551616) (hk : key.length ≤ maxLen) (hv : val.length ≤ maxLen) (w : World) :
    Calls Try.prog 21 #[.int .u64 (ts : Nat), .string ⟨key.toArray⟩, .string ⟨val.toArray⟩] w (WriteEnd (mkE ts key val) w) := by
  have hok : (mkE ts key val).ok := ⟨hts, hts, fun r hr => by simp [mkE] at hr; subst hr; exact ⟨hk, hv, hts⟩⟩
  go_enter Try.func21, Try.ntmps21
  go_wp2_with fail
  have hb0 := (Below.refl w.heap.size w).alloc (Nat.le_refl _) (.cells (entCells ⟨ts, ts, some ⟨w.heap.size + 1, 0, none⟩, 1, 1⟩).toArray 40)
  have hE : Blk ((w.alloc (.cells (entCells ⟨ts, ts, some ⟨w.heap.size + 1, 0, none⟩, 1, 1⟩).toArray 40)).alloc (.cells (recCells ⟨key, ts, false, val⟩).toArray 58)) w.heap.size (entCells ⟨ts, ts, some ⟨w.heap.size + 1, 0, none⟩, 1, 1⟩) 40 := (Blk.new w _ _).alloc _
  have hR : Blk ((w.alloc (.cells (entCells ⟨ts, ts, some ⟨w.heap.size + 1, 0, none⟩, 1, 1⟩).toArray 40)).alloc (.cells (recCells ⟨key, ts, false, val⟩).toArray 58)) (w.heap.size + 1) (recCells ⟨key, ts, false, val⟩) 58 := by
    have := Blk.new (w.alloc (.cells (entCells ⟨ts, ts, some ⟨w.heap.size + 1, 0, none⟩, 1, 1⟩).toArray 40)) (recCells ⟨key, ts, false, val⟩) 58
    rw [World.size_alloc] at this
    exact this
  refine bodyPost_ret (results_entry rfl _ rfl hE) rfl ⟨_, _, _, rfl, ⟨rfl, rfl, rfl, ?_, hok⟩, (fun g o e => by cases e; omega), hb0.alloc hb0.size _⟩
  have hR2 : Blk ((w.alloc (.cells (entCells ⟨ts, ts, some ⟨w.heap.size + 1, 0, none⟩, 1, 1⟩).toArray 40)).alloc (.cells (recCells ⟨key, ts, false, val⟩).toArray 58)) (w.heap.size + 1) (recsCells [⟨key, ts, false, val⟩] ++ []) 58 := by simpa [recsCells] using hR
  exact RowsAt.of_blk (n := 1) hR2 rfl (Nat.le_refl _) (by omega)
end Go.Proofs.Ytffianjbljgnaaa

/-! ### Work27 -/
namespace Go.Proofs.Ytffianjbljgnaaa
set_option linter.unusedVariables false
set_option linter.unusedSimpArgs false
open Go.RowKit Go.Maps

set_option maxRecDepth 100000 in
set_option maxHeartbeats 8000000 in
theorem works_any (w : World) : Calls Try.prog 12 #[] w fun e w' => e = .returned (.bool true) ∧ Below w.heap.size w w' := by
  have HC := Lib.hid (fun ts n kind key val w' => callM_any ts n kind key val w')
  have HF := Lib.hid (fun ts n key val w' => foundM_any ts n key val w')
  have HW1 := Lib.hid (show ∀ w', Calls Try.prog 21 #[.int .u64 5, .string ⟨#[97]⟩, .string ⟨#[49]⟩] w' fun e w'' => ∃ (a : Option Addr) (n c : Nat), e = .returned (.agg #[.int .u64 5, .int .u64 5, .slice a n c]) ∧ EntIs w'' ⟨5, 5, a, n, c⟩ (mkE 5 [97] [49]) ∧ (∀ g o, a = some ⟨g, o, none⟩ → w'.heap.size ≤ g) ∧ Below w'.heap.size w' w'' from fun w' => writeE_any 5 [97] [49] (by omega) (by decide) (by decide) w')
  have HW2 := Lib.hid (show ∀ w', Calls Try.prog 21 #[.int .u64 4, .string ⟨#[97]⟩, .string ⟨#[48]⟩] w' fun e w'' => ∃ (a : Option Addr) (n c : Nat), e = .returned (.agg #[.int .u64 4, .int .u64 4, .slice a n c]) ∧ EntIs w'' ⟨4, 4, a, n, c⟩ (mkE 4 [97] [48]) ∧ (∀ g o, a = some ⟨g, o, none⟩ → w'.heap.size ≤ g) ∧ Below w'.heap.size w' w'' from fun w' => writeE_any 4 [97] [48] (by omega) (by decide) (by decide) w')
  go_enter Try.func12, Try.ntmps12
  go_wp2_with fail
  refine (HC.out 5 1 3 [97] [49] _).mono ?_
  rintro e w1 ⟨rfl, hb1⟩
  have HB1 := Lib.hid hb1
  clear hb1
  go_wp2_with fail
  refine (HC.out 5 2 5 [] [] _).mono ?_
  rintro e w2 ⟨rfl, hb2⟩
  have HB2 := Lib.hid (HB1.out.trans (hb2.mono HB1.out.size))
  clear hb2
  go_wp2_with fail
  refine (HF.out 6 1 [97] [49] _).mono ?_
  rintro e w3 ⟨rfl, hb3⟩
  have HB3 := Lib.hid (HB2.out.trans (hb3.mono HB2.out.size))
  clear hb3
  go_wp2_with fail
  refine (HC.out 6 2 5 [] [] _).mono ?_
  rintro e w4 ⟨rfl, hb4⟩
  have HB4 := Lib.hid (HB3.out.trans (hb4.mono HB3.out.size))
  clear hb4
  go_upto_region 2 with ((with_reducible refine wpList_buildM4 rfl _ _ _ _ rfl (mkC 5 1 3 [97] [49]) (mkC 5 2 5 [] []) (mkF 6 1 [97] [49]) (mkC 6 2 5 [] []) ?_ ?_ ?_ ?_ ?_); rfl; rfl; rfl; rfl)
  have hX := Blk.new w4 (mdsCells [mkC 5 1 3 [97] [49], mkC 5 2 5 [] [], mkF 6 1 [97] [49], mkC 6 2 5 [] []]) 37
  have hb5 := HB4.out.trans (((Below.refl w4.heap.size w4).alloc (Nat.le_refl _) (.cells (mdsCells [mkC 5 1 3 [97] [49], mkC 5 2 5 [] [], mkF 6 1 [97] [49], mkC 6 2 5 [] []]).toArray 37)).mono HB4.out.size)
  obtain ⟨xb, hxb⟩ : ∃ xb, w4.heap.size = xb := ⟨_, rfl⟩
  rw [hxb] at hX
  rw [hxb]
  generalize w4.alloc (.cells (mdsCells [mkC 5 1 3 [97] [49], mkC 5 2 5 [] [], mkF 6 1 [97] [49], mkC 6 2 5 [] []]).toArray 37) = w5 at *
  have HX := Lib.hid hX
  have HB5 := Lib.hid hb5
  have HXb := Lib.hid (show w.heap.size ≤ xb by rw [← hxb]; exact HB4.out.size)
  clear hX hb5 hxb
  go_wp2_with fail
  refine (HW1.out _).mono ?_
  rintro e w6 ⟨a1, n1, c1, rfl, he1, ho1, hb6⟩
  have hX6 := HX.out.on hb6
  have hL : Blk (w6.alloc (.cells #[.int .u64 5, .int .u64 5, .slice a1 n1 c1] 40)) w6.heap.size (entCells ⟨5, 5, a1, n1, c1⟩) 40 := Blk.new w6 (entCells ⟨5, 5, a1, n1, c1⟩) 40
  have hbL := (Below.refl w6.heap.size w6).alloc (Nat.le_refl _) (.cells #[.int .u64 5, .int .u64 5, .slice a1 n1 c1] 40)
  have HX7 := Lib.hid (hX6.on hbL)
  have HB7 := Lib.hid ((HB5.out.trans (hb6.mono HB5.out.size)).trans (hbL.mono (Nat.le_trans HB5.out.size hb6.size)))
  have HE1 := Lib.hid (he1.on hbL)
  have HO1 := Lib.hid (show ∀ g o, a1 = some ⟨g, o, none⟩ → xb < g from fun g o e => Nat.lt_of_lt_of_le HX.out.lt (ho1 g o e))
  have HXl := Lib.hid (show xb < w6.heap.size from Nat.lt_of_lt_of_le HX.out.lt hb6.size)
  clear hX6 he1 ho1 hb6 hbL
  have HL := Lib.hid hL
  clear hL
  go_upto_region 3 with fail
  obtain ⟨lb, hlb⟩ : ∃ lb, w6.heap.size = lb := ⟨_, rfl⟩
  rw [hlb] at HXl HL
  rw [hlb]
  generalize w6.alloc (.cells #[.int .u64 5, .int .u64 5, .slice a1 n1 c1] 40) = w7 at *
  go_wp2_with fail
  refine (HW2.out _).mono ?_
  rintro e w8 ⟨a2, n2, c2, rfl, he2, ho2, hb8⟩
  have hQ : Blk (w8.alloc (.cells #[.int .u64 4, .int .u64 4, .slice a2 n2 c2] 40)) w8.heap.size (entCells ⟨4, 4, a2, n2, c2⟩) 40 := Blk.new w8 (entCells ⟨4, 4, a2, n2, c2⟩) 40
  have hb9 := (Below.refl w8.heap.size w8).alloc (Nat.le_refl _) (.cells #[.int .u64 4, .int .u64 4, .slice a2 n2 c2] 40)
  have hL9 := (HL.out.on hb8).on hb9
  obtain ⟨c', w10, hrun, hrow, hb10⟩ := append_new 25 40 25 (.agg #[.int .u64 0, .int .u64 0, .slice none 0 0]) 3 40 Try.underlying25 info_entry (by omega) (n := 1) (cap := 1) (cells := entCells ⟨5, 5, a1, n1, c1⟩) rfl (fun j v hv => by rw [hL9.cell]; exact hv) (by omega) ⟨w8.heap.size, 0, none⟩ 1 1 (entCells ⟨4, 4, a2, n2, c2⟩) (by omega) rfl (fun j u hu => by rw [addr_add', Nat.zero_add, hQ.cell]; exact hu) (by omega)
  rw [World.size_alloc] at hrun hrow
  have hb89 := (hb8.trans (hb9.mono hb8.size))
  have hbA := hb89.trans (hb10.mono hb89.size)
  have HE9 : Hid (EntsAt w10 (some ⟨w8.heap.size + 1, 0, none⟩) 2 c' [(⟨5, 5, a1, n1, c1⟩, mkE 5 [97] [49]), (⟨4, 4, a2, n2, c2⟩, mkE 4 [97] [48])]) := Lib.hid ⟨rfl, hrow, fun q hq => by
    simp only [List.mem_cons, List.not_mem_nil, or_false] at hq
    rcases hq with rfl | rfl
    · exact HE1.out.on hbA
    · exact (he2.on hb9).on hb10⟩
  have HL10 := Lib.hid ((hL9.on hb10))
  have HX10 := Lib.hid (HX7.out.on hbA)
  have HB10 := Lib.hid (HB7.out.trans (hbA.mono HB7.out.size))
  have HE10 := Lib.hid (HE1.out.on hbA)
  have HO2 := Lib.hid (show ∀ g o, a2 = some ⟨g, o, none⟩ → xb < g from fun g o e => Nat.lt_of_lt_of_le HX7.out.lt (ho2 g o e))
  have HX8 := Lib.hid (show xb < w8.heap.size + 1 from Nat.lt_succ_of_lt (Nat.lt_of_lt_of_le HX7.out.lt hb8.size))
  have hA := after_any w10 _ 2 c' _ HE9.out (by unfold BoundE; omega) (fun q hq => by
    simp only [List.mem_cons, List.not_mem_nil, or_false] at hq
    rcases hq with rfl | rfl <;> (show 1 ≤ 1000; omega))
  have hAf : afterL ([((⟨5, 5, a1, n1, c1⟩ : Ent), mkE 5 [97] [49]), (⟨4, 4, a2, n2, c2⟩, mkE 4 [97] [48])].map (·.2)) = [([97], [49])] := by kernel_rfl
  rw [hAf] at hA
  have HA := Lib.hid hA
  clear hA hAf
  clear hQ hb9 hL9 hrow hb10 hb89 hbA he2 ho2 hb8
  go_wp2_with (at_builtin; (with_reducible refine wpList_append_run rfl _ _ _ rfl _ _ _ _ ?_ ?_ hrun ?_); rfl; rfl)
  refine HA.out.mono ?_
  rintro e w11 ⟨ap, cp, rfl, hrp, hgp, hb11⟩
  have hX11 := HX10.out.on hb11
  have hL11 := HL10.out.on hb11
  have hE11 := HE10.out.on hb11
  have hB11 := HB10.out.trans (hb11.mono HB10.out.size)
  obtain ⟨pb, po, rfl, hpl, hpc⟩ := hrp.at_ (by decide)
  have hpx : pb ≠ xb := fun e => by have := hgp pb po rfl; have := HX10.out.lt; omega
  have hcmp : ∀ w, _ := fun w => run_neq_pair ([97], [49]) ([97], [49]) w
  rw [show decide ((([97], [49]) : KV) ≠ ([97], [49])) = false from rfl] at hcmp
  unfold pairV at hcmp
  have hcmp' : ∀ w, (binOp .neq 47 (.agg #[.string ⟨#[97]⟩, .string ⟨#[49]⟩]) (.agg #[.string ⟨#[97]⟩, .string ⟨#[49]⟩])).run Try.prog w = .ok (.bool false) w := hcmp
  clear hcmp
  have f0 : w11.cell? ⟨pb, po, none⟩ = some (.string ⟨#[97]⟩) := hpc 0 _ rfl
  have f1 : w11.cell? ⟨pb, po + 1, none⟩ = some (.string ⟨#[49]⟩) := hpc 1 _ rfl
  have HZ1 : Hid (EntsAt w11 (some ⟨lb, 0, none⟩) 1 1 [((⟨5, 5, a1, n1, c1⟩ : Ent), mkE 5 [97] [49])]) := Lib.hid ⟨rfl, RowsAt.of_blk (rest := []) (by simpa [entsCells] using hL11) rfl (by omega) (by omega), fun q hq => by
    simp only [List.mem_cons, List.not_mem_nil, or_false] at hq
    subst hq
    exact hE11⟩
  have hops : ∀ q ∈ [((⟨5, 5, a1, n1, c1⟩ : Ent), mkE 5 [97] [49])], q.2.ops.length ≤ 1000 := fun q hq => by
    simp only [List.mem_cons, List.not_mem_nil, or_false] at hq
    subst hq
    show 1 ≤ 1000
    omega
  have hMA : MadeAt w11 (some ⟨xb, 0, none⟩) 4 4 [(mkC 5 1 3 [97] [49], []), (mkC 5 2 5 [] [], []), (mkF 6 1 [97] [49], []), (mkC 6 2 5 [] [], [])] := by
    refine ⟨rfl, RowsAt.of_blk (rest := []) (by simpa using hX11) rfl (by omega) (by omega), fun q hq => ?_⟩
    simp only [List.mem_cons, List.not_mem_nil, or_false] at hq
    rcases hq with rfl | rfl | rfl | rfl <;> exact ⟨rfl, RowsAt.nil _ _, by decide, by decide⟩
  have hOk : MadeOk [(mkC 5 1 3 [97] [49], []), (mkC 5 2 5 [] [], []), (mkF 6 1 [97] [49], []), (mkC 6 2 5 [] [], [])] := ⟨fun q hq => by
    simp only [List.mem_cons, List.not_mem_nil, or_false] at hq
    rcases hq with rfl | rfl | rfl | rfl <;> decide, fun q hq => by
    simp only [List.mem_cons, List.not_mem_nil, or_false] at hq
    rcases hq with rfl | rfl | rfl | rfl <;> decide⟩
  have hS := serial_any w11 _ 1 1 _ HZ1.out (by omega) hops _ 4 4 _ hMA (by omega) hOk (by have := commL_le ([((⟨5, 5, a1, n1, c1⟩ : Ent), mkE 5 [97] [49])].map (·.1.ts)) [(mkC 5 1 3 [97] [49], []), (mkC 5 2 5 [] [], []), (mkF 6 1 [97] [49], []), (mkC 6 2 5 [] [], [])]; unfold BoundU; exact Nat.le_trans this (by decide)) (fun ts => by have := indsP_le ts [(mkC 5 1 3 [97] [49], []), (mkC 5 2 5 [] [], []), (mkF 6 1 [97] [49], []), (mkC 6 2 5 [] [], [])] 4; unfold BoundC; exact Nat.lt_of_le_of_lt this (by decide))
  have hs : serialL [(mkC 5 1 3 [97] [49], []), (mkC 5 2 5 [] [], []), (mkF 6 1 [97] [49], []), (mkC 6 2 5 [] [], [])] [((⟨5, 5, a1, n1, c1⟩ : Ent), mkE 5 [97] [49])] [] (commL ([((⟨5, 5, a1, n1, c1⟩ : Ent), mkE 5 [97] [49])].map (·.1.ts)) [(mkC 5 1 3 [97] [49], []), (mkC 5 2 5 [] [], []), (mkF 6 1 [97] [49], []), (mkC 6 2 5 [] [], [])]) = -1 := by kernel_rfl
  rw [hs] at hS
  have HS := Lib.hid hS
  have HX11 := Lib.hid hX11
  have HB11 := Lib.hid hB11
  have HOps := Lib.hid hops
  clear hX11 hL11 hE11 hB11 hb11 hrp hgp hpc hpl hMA hOk hS hs hops
  go_wp2_with fail
  refine HS.out.mono ?_
  rintro e w12 ⟨rfl, hb12⟩
  have hX12 := HX11.out.on hb12
  have hZ12 := HZ1.out.on hb12
  have hB12 := HB11.out.trans (hb12.mono HB11.out.size)
  have hX13 := hX12.set 44 (.string ⟨#[50]⟩)
  have hm : Mod [xb] w12 (w12.setCell ⟨xb, 44, none⟩ (.string ⟨#[50]⟩)) := (Mod.refl _ _).setCell _ _ (.inl (by simp))
  have hZ13 := hZ12.mod hm (fun g o e => by cases e; have := HXl.out; simp; omega) (fun q hq g o e => by
    simp only [List.mem_cons, List.not_mem_nil, or_false] at hq
    subst hq
    have := HO1.out g o e
    simp
    omega)
  have hMA : MadeAt (w12.setCell ⟨xb, 44, none⟩ (.string ⟨#[50]⟩)) (some ⟨xb, 0, none⟩) 4 4 [(mkC 5 1 3 [97] [49], []), (mkC 5 2 5 [] [], []), (mkF 6 1 [97] [50], []), (mkC 6 2 5 [] [], [])] := by
    refine ⟨rfl, RowsAt.of_blk (rest := []) (by rw [List.append_nil]; exact hX13) rfl (by omega) (by omega), fun q hq => ?_⟩
    simp only [List.mem_cons, List.not_mem_nil, or_false] at hq
    rcases hq with rfl | rfl | rfl | rfl <;> exact ⟨rfl, RowsAt.nil _ _, by decide, by decide⟩
  have hOk : MadeOk [(mkC 5 1 3 [97] [49], []), (mkC 5 2 5 [] [], []), (mkF 6 1 [97] [50], []), (mkC 6 2 5 [] [], [])] := ⟨fun q hq => by
    simp only [List.mem_cons, List.not_mem_nil, or_false] at hq
    rcases hq with rfl | rfl | rfl | rfl <;> decide, fun q hq => by
    simp only [List.mem_cons, List.not_mem_nil, or_false] at hq
    rcases hq with rfl | rfl | rfl | rfl <;> decide⟩
  have hS := serial_any (w12.setCell ⟨xb, 44, none⟩ (.string ⟨#[50]⟩)) _ 1 1 _ hZ13 (by omega) HOps.out _ 4 4 _ hMA (by omega) hOk (by have := commL_le ([((⟨5, 5, a1, n1, c1⟩ : Ent), mkE 5 [97] [49])].map (·.1.ts)) [(mkC 5 1 3 [97] [49], []), (mkC 5 2 5 [] [], []), (mkF 6 1 [97] [50], []), (mkC 6 2 5 [] [], [])]; unfold BoundU; exact Nat.le_trans this (by decide)) (fun ts => by have := indsP_le ts [(mkC 5 1 3 [97] [49], []), (mkC 5 2 5 [] [], []), (mkF 6 1 [97] [50], []), (mkC 6 2 5 [] [], [])] 4; unfold BoundC; exact Nat.lt_of_le_of_lt this (by decide))
  have hs : serialL [(mkC 5 1 3 [97] [49], []), (mkC 5 2 5 [] [], []), (mkF 6 1 [97] [50], []), (mkC 6 2 5 [] [], [])] [((⟨5, 5, a1, n1, c1⟩ : Ent), mkE 5 [97] [49])] [] (commL ([((⟨5, 5, a1, n1, c1⟩ : Ent), mkE 5 [97] [49])].map (·.1.ts)) [(mkC 5 1 3 [97] [49], []), (mkC 5 2 5 [] [], []), (mkF 6 1 [97] [50], []), (mkC 6 2 5 [] [], [])]) = 2 := by kernel_rfl
  rw [hs] at hS
  have HS2 := Lib.hid hS
  have HB13 := Lib.hid (show Below w.heap.size w (w12.setCell ⟨xb, 44, none⟩ (.string ⟨#[50]⟩)) from hB12.trans (hm.below (fun x hx => by simp at hx; have := HXb.out; omega) hB12.size))
  have f2 := hX12.free 44
  have f3 : w12.cell? ⟨xb, 44, none⟩ = some (.string ⟨#[49]⟩) := by rw [hX12.cell]; rfl
  clear hX12 hZ12 hB12 hX13 hm hZ13 hMA hOk hS hs hb12
  go_wp2_with fail
  refine HS2.out.mono ?_
  rintro e w14 ⟨rfl, hb14⟩
  have HB14 := Lib.hid (HB13.out.trans (hb14.mono HB13.out.size))
  clear hb14
  go_wp2_with fail
  exact bodyPost_ret (results_tmp (by rfl) _ _ _) rfl ⟨rfl, HB14.out⟩
end Go.Proofs.Ytffianjbljgnaaa
