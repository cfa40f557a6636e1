/-
  The law's own cuts: recs (so many records, of short texts), entries (thirty, of eight operations each). No condition but sizes that a machine has.
-/
import Derived.Test.YtffianjbljgnaaaAfter
namespace Go.Proofs.Ytffianjbljgnaaa
set_option linter.unusedVariables false
set_option linter.unusedSimpArgs false
open Go.RowKit

def cutRec (r : Rec) : Rec := ⟨r.key.take 20, r.lsn, r.del, r.val.take 20⟩
def cutRecs (most : Nat) (R : List Rec) : List Rec := (R.take most).map cutRec
theorem info_rec : (Try.prog.info? 58).map (fun i => (i.zero, i.size, i.bytes)) = some (some (.agg #[.string ⟨#[]⟩, .int .u64 0, .bool false, .string ⟨#[]⟩]), 4, 48) := by kernel_rfl
/-- What a row of records ends with. -/
def RecsEnd (R : List Rec) (w : World) (e : Ending) (w' : World) : Prop :=
  ∃ (a : Option Addr) (c : Nat), e = .returned (.slice a R.length c) ∧ RowsAt w' a R.length c 4 (recsCells R) ∧ (∀ g o, a = some ⟨g, o, none⟩ → w.heap.size ≤ g ∧ g < w'.heap.size) ∧ Below w.heap.size w w'
theorem recs_append (l m : List Rec) : recsCells (l ++ m) = recsCells l ++ recsCells m := by unfold recsCells; rw [List.flatMap_append]
theorem recs_one (l : List Rec) : ∀ u ∈ recsCells l, u.oneCell' = true := by
  intro u hu
  unfold recsCells at hu
  obtain ⟨r, _, hr⟩ := List.mem_flatMap.1 hu
  simp only [recCells, List.mem_cons, List.not_mem_nil, or_false] at hr
  rcases hr with rfl | rfl | rfl | rfl <;> rfl
theorem min_run (n : Nat) (w : World) : (Builtin.min_ #[3, 3] 3 #[.int .i64 (n : Nat), .int .i64 20]).run Try.prog w = .ok (.int .i64 (min n 20 : Nat)) w := by
  rw [run_min_int2, show (if (20 : Int) < n then (20 : Int) else n) = ((min n 20 : Nat) : Int) from by split <;> omega]
theorem take_min (l : List UInt8) : (⟨l.toArray⟩ : ByteArray).extract 0 (min l.length 20) = ⟨(l.take 20).toArray⟩ := by
  rw [extract_list, List.drop_zero, Nat.sub_zero]
  have : l.take (min l.length 20) = l.take 20 := by
    rcases Nat.le_total l.length 20 with h | h
    · rw [Nat.min_eq_left h, List.take_of_length_le (Nat.le_refl _), List.take_of_length_le h]
    · rw [Nat.min_eq_right h]
  rw [this]
set_option maxRecDepth 100000 in
set_option maxHeartbeats 4000000 in
theorem recs_any (w : World) (a : Option Addr) (n c : Nat) (R : List Rec) (h : RowsAt w a n c 4 (recsCells R)) (hR : n = R.length) (hok : ∀ r ∈ R, r.ok) (most : Nat) (hm : most ≤ 1000) :
    Calls Try.prog 14 #[.slice a n c, .int .i64 most] w (RecsEnd (cutRecs most R) w) := by
  have HH := Lib.hid h
  have HN := Lib.hid hR
  have HO := Lib.hid hok
  have hn : n ≤ 9223372036854775807 := h.max
  clear h hR hok
  go_enter Try.func14, Try.ntmps14
  go_wp2_with fail
  go_loopw [5, 6, 7] (fun s5 s6 _ wr => ∃ i : Nat, i ≤ n ∧ i ≤ most ∧ s6 = .int .i64 i ∧ wr.ownsRow w.heap.size 58 4 s5 i (recsCells ((R.take i).map cutRec)) ∧ Below w.heap.size w wr) (fun _ s6 _ _ => n - (intOf s6).toNat)
  case atStart => exact ⟨0, by omega, by omega, rfl, ⟨rfl, .inl ⟨rfl, rfl⟩⟩, Below.refl _ _⟩
  case round =>
    obtain ⟨i, hi, him, rfl, hown, hb⟩ := hrel
    have hsz := hb.size
    by_cases hlt : i < n ∧ i < most
    · obtain ⟨hlt, hlm⟩ := hlt
      have hil : (i : Int) < (n : Int) := by omega
      have hml : (i : Int) < (most : Int) := by omega
      obtain ⟨r, g, o, hr, hrl, rfl, hg, d0, d1, d2, d3⟩ := recs_row (HH.out.on hb) HN.out hlt
      obtain ⟨rk, rl, rd, rv⟩ := r
      simp only at d0 d1 d2 d3
      have HK := Lib.hid (HO.out _ hrl)
      have HNext := Lib.hid (show (R.take (i + 1)).map cutRec = (R.take i).map cutRec ++ [⟨rk.take 20, rl, rd, rv.take 20⟩] by rw [List.take_add_one, hr]; simp [cutRec])
      have hBn := (Below.refl wr.heap.size wr).alloc (Nat.le_refl _) (.cells #[.string ⟨rk.toArray⟩, .int .u64 (rl : Nat), .bool rd, .string ⟨rv.toArray⟩] 58)
      have HLt := Lib.hid (show ∀ x, u5.ownBlock = some x → w.heap.size ≤ x ∧ x < wr.heap.size from hown.lt)
      have hA : Blk (wr.alloc (.cells #[.string ⟨rk.toArray⟩, .int .u64 (rl : Nat), .bool rd, .string ⟨rv.toArray⟩] 58)) wr.heap.size [.string ⟨rk.toArray⟩, .int .u64 (rl : Nat), .bool rd, .string ⟨rv.toArray⟩] 58 := Blk.new wr [.string ⟨rk.toArray⟩, .int .u64 (rl : Nat), .bool rd, .string ⟨rv.toArray⟩] 58
      have hO2 := hown.alloc (.cells #[.string ⟨rk.toArray⟩, .int .u64 (rl : Nat), .bool rd, .string ⟨rv.toArray⟩] 58)
      have HBn := Lib.hid (hb.trans (hBn.mono hb.size))
      have HA := Lib.hid hA
      have HO2 := Lib.hid hO2
      clear hA hO2 hown hb hBn hr hrl
      go_upto_region 6 with fail
      generalize hw2 : wr.alloc (.cells #[.string ⟨rk.toArray⟩, .int .u64 (rl : Nat), .bool rd, .string ⟨rv.toArray⟩] 58) = w2 at *
      have hw2s : w2.heap.size = wr.heap.size + 1 := by rw [← hw2]; simp
      clear hw2 d0 d1 d2 d3
      have k0 : w2.cell? ⟨wr.heap.size, 0, none⟩ = some (.string ⟨rk.toArray⟩) := by rw [HA.out.cell]; rfl
      have f0 := HA.out.free 0
      have m0 := min_run rk.length
      have x0 := take_min rk
      have hA3 := HA.out.set 0 (.string ⟨(rk.take 20).toArray⟩)
      have k3 : (w2.setCell ⟨wr.heap.size, 0, none⟩ (.string ⟨(rk.take 20).toArray⟩)).cell? ⟨wr.heap.size, 3, none⟩ = some (.string ⟨rv.toArray⟩) := by rw [hA3.cell]; rfl
      have f3 := hA3.free 3
      have m3 := min_run rv.length
      have x3 := take_min rv
      have hA4 := hA3.set 3 (.string ⟨(rv.take 20).toArray⟩)
      have hm4 : Mod [wr.heap.size] w2 ((w2.setCell ⟨wr.heap.size, 0, none⟩ (.string ⟨(rk.take 20).toArray⟩)).setCell ⟨wr.heap.size, 3, none⟩ (.string ⟨(rv.take 20).toArray⟩)) := ((Mod.refl _ _).setCell _ _ (.inl (by simp))).setCell _ _ (.inl (by simp))
      have HA4 := Lib.hid hA4
      have HM4 := Lib.hid hm4
      have b0 : min rk.length 20 ≤ rk.length := Nat.min_le_left _ _
      have b3 : min rv.length 20 ≤ rv.length := Nat.min_le_left _ _
      have X0 := Lib.hid x0
      have X3 := Lib.hid x3
      clear hA3 hA4 hm4 x0 x3
      generalize min rk.length 20 = p at *
      generalize min rv.length 20 = q at *
      go_upto_region 7 with fail
      rw [X0.out]
      go_upto_region 8 with fail
      rw [X3.out]
      clear k0 f0 k3 f3 m0 m3 b0 b3
      generalize (w2.setCell ⟨wr.heap.size, 0, none⟩ (.string ⟨(rk.take 20).toArray⟩)).setCell ⟨wr.heap.size, 3, none⟩ (.string ⟨(rv.take 20).toArray⟩) = w4 at *
      have e0 : w4.cell? ⟨wr.heap.size, 0, none⟩ = some (.string ⟨(rk.take 20).toArray⟩) := by rw [HA4.out.cell]; rfl
      have e1 : w4.cell? ⟨wr.heap.size, 1, none⟩ = some (.int .u64 (rl : Nat)) := by rw [HA4.out.cell]; rfl
      have e2 : w4.cell? ⟨wr.heap.size, 2, none⟩ = some (.bool rd) := by rw [HA4.out.cell]; rfl
      have e3 : w4.cell? ⟨wr.heap.size, 3, none⟩ = some (.string ⟨(rv.take 20).toArray⟩) := by rw [HA4.out.cell]; rfl
      have ho4 : w4.ownsRow w.heap.size 58 4 u5 i (recsCells ((R.take i).map cutRec)) := ownsRow_mod HO2.out HM4.out (fun x hx e => by have := (HLt.out x e).2; simp at hx; omega)
      have hb4 := HBn.out.trans (HM4.out.below (fun x hx => by simp at hx; omega) HBn.out.size)
      have hbn := (Below.refl w4.heap.size w4).alloc (Nat.le_refl _) (.cells #[.string ⟨(rk.take 20).toArray⟩, .int .u64 (rl : Nat), .bool rd, .string ⟨(rv.take 20).toArray⟩] 58)
      have hN : Blk (w4.alloc (.cells #[.string ⟨(rk.take 20).toArray⟩, .int .u64 (rl : Nat), .bool rd, .string ⟨(rv.take 20).toArray⟩] 58)) w4.heap.size (recsCells [⟨rk.take 20, rl, rd, rv.take 20⟩]) 58 := Blk.new w4 [.string ⟨(rk.take 20).toArray⟩, .int .u64 (rl : Nat), .bool rd, .string ⟨(rv.take 20).toArray⟩] 58
      obtain ⟨v', w', hrun, hown', hmod, hblk⟩ := own_append 38 58 38 _ 4 48 Try.underlying38 info_rec rfl (by decide) (by decide) (ho4.alloc (.cells #[.string ⟨(rk.take 20).toArray⟩, .int .u64 (rl : Nat), .bool rd, .string ⟨(rv.take 20).toArray⟩] 58))
        (by omega) (by have := hb4.size; simp; omega) ⟨w4.heap.size, 0, none⟩ 1 1 (recsCells [⟨rk.take 20, rl, rd, rv.take 20⟩]) (by omega) (by omega) rfl
        (fun k u hk => by rw [addr_add', Nat.zero_add, hN.cell]; exact hk) (recs_one _)
      rw [← recs_append, ← HNext.out] at hown'
      have HOwn' := Lib.hid hown'
      have HM := Lib.hid (show Below w.heap.size w w' from by
        refine hb4.trans (((Mod.of_below hbn).trans hmod).below (fun x hx => ?_) hb4.size)
        exact (HLt.out x (by simpa using hx)).1)
      clear hown' hmod hblk hbn ho4 hb4 hN
      go_wp2_with (at_builtin; (with_reducible refine wpList_append_run rfl _ _ _ rfl _ _ _ _ ?_ ?_ hrun ?_); rfl; rfl)
      go_roundw
      case rel => exact ⟨i + 1, by omega, by omega, by go_num, HOwn'.out, HM.out⟩
      case measure => simp [intOf]; omega
    · have HE := Lib.hid (show RecsEnd (cutRecs most R) w (.returned u5) wr from by
        obtain ⟨a, c, rfl⟩ := own_slice hown
        obtain ⟨h1, h2⟩ := own_rows hown
        have h3 := hown.lt
        have e : R.take i = R.take most := by
          have hn' := HN.out
          rcases Nat.lt_or_ge i n with h3 | h3
          · rw [show i = most by omega]
          · rw [List.take_of_length_le (by omega), List.take_of_length_le (by omega)]
        have hl : i = (cutRecs most R).length := by
          unfold cutRecs
          rw [List.length_map, ← e, List.length_take]
          have hn' := HN.out
          omega
        rw [e, show (R.take most).map cutRec = cutRecs most R from rfl] at h1
        subst hl
        exact ⟨a, c, rfl, h1, (fun g o e => h3 g (by rw [e]; rfl)), hb⟩)
      clear hown hb
      by_cases h1 : i < n
      · have hil : (i : Int) < (n : Int) := by omega
        have hml : ¬ (i : Int) < (most : Int) := by omega
        go_wp2_with fail
        go_ret
        exact HE.out
      · have hil : ¬ (i : Int) < (n : Int) := by omega
        go_wp2_with fail
        go_ret
        exact HE.out
end Go.Proofs.Ytffianjbljgnaaa
