/-
  spec.Apply: what an entry makes of a map. Condition: at most a thousand pairs and operations.
-/
import Derived.Test.YtffianjbljgnaaaRight3
namespace Go.Proofs.Ytffianjbljgnaaa
set_option linter.unusedVariables false
set_option linter.unusedSimpArgs false
open Go.RowKit Go.Maps

/-- A map of pairs that are listed. -/
def storeOf (M : List KV) : List KV := M.foldl (fun S p => put S p.1 p.2) []
theorem storeOf_asc (l : List KV) : ∀ S, Asc S → Asc (l.foldl (fun S p => put S p.1 p.2) S) ∧ (l.foldl (fun S p => put S p.1 p.2) S).length ≤ S.length + l.length := by
  induction l with
  | nil => intro S h; exact ⟨h, Nat.le_refl _⟩
  | cons p t ih =>
    intro S h
    have := ih _ (put_asc h p.1 p.2)
    have e := put_length h p.1 p.2
    rw [List.foldl_cons, List.length_cons]
    refine ⟨this.1, ?_⟩
    have := this.2
    split at e <;> omega
theorem put_last (S : List KV) (k v : Txt) (h : ∀ p ∈ S, p.1 < k) : put S k v = S ++ [(k, v)] := by
  induction S with
  | nil => rfl
  | cons p t ih =>
    unfold put
    rw [if_pos (h p (by simp)), ih (fun q hq => h q (List.mem_cons_of_mem _ hq))]; rfl
theorem storeOf_self {M : List KV} (h : Asc M) : storeOf M = M := by
  have : ∀ (l S : List KV), Asc (S ++ l) → l.foldl (fun S p => put S p.1 p.2) S = S ++ l := by
    intro l
    induction l with
    | nil => intro S _; simp
    | cons p t ih =>
      intro S h
      rw [List.foldl_cons, put_last S p.1 p.2 (fun q hq => (List.pairwise_append.1 h).2.2 q hq p (by simp)), ih]
      · simp
      · simpa using h
  exact this M [] (by simpa using h)
def applyL (M : List KV) (l : List Rec) : List KV := l.foldl app (storeOf M)
set_option maxRecDepth 100000 in
set_option maxHeartbeats 4000000 in
theorem apply_any (w : World) (am : Option Addr) (nm cm : Nat) (M : List KV) (hM : RowsAt w am nm cm 2 (pairsCells M)) (eM : nm = M.length) (hnm : nm ≤ 1000) (oM : ∀ p ∈ M, p.1.length ≤ maxLen)
    (e : Ent) (x : Entry) (hE : EntIs w e x) (hx : x.ops.length ≤ 1000) :
    Calls Try.prog 16 #[.slice am nm cm, .agg #[.int .u64 (e.ts : Nat), .int .u64 (e.first : Nat), .slice e.a e.n e.c]] w (PairsEnd (applyL M x.ops) w) := by
  have hb0 := (Below.refl w.heap.size w).alloc (Nat.le_refl _) (.cells #[.int .u64 (e.ts : Nat), .int .u64 (e.first : Nat), .slice e.a e.n e.c] 40)
  have hEb : Blk (w.alloc (.cells #[.int .u64 (e.ts : Nat), .int .u64 (e.first : Nat), .slice e.a e.n e.c] 40)) w.heap.size (entCells e) 40 := Blk.new w (entCells e) _
  have hM0 := VMap.made_run (w := w.alloc (.cells #[.int .u64 (e.ts : Nat), .int .u64 (e.first : Nat), .slice e.a e.n e.c] 40)) (k := 9) (e := 9) (t := 72) Try.underlying72
  have hS0 := StoreAt.made (w.alloc (.cells #[.int .u64 (e.ts : Nat), .int .u64 (e.first : Nat), .slice e.a e.n e.c] 40))
  rw [World.size_alloc] at hS0 hM0
  have hbm : Below w.heap.size w ((w.alloc (.cells #[.int .u64 (e.ts : Nat), .int .u64 (e.first : Nat), .slice e.a e.n e.c] 40)).alloc (.map #[] 0)) := hb0.alloc hb0.size _
  have HEb := Lib.hid (hEb.alloc (.map #[] 0))
  have HM := Lib.hid hM
  have HE := Lib.hid hE
  have HO := Lib.hid oM
  have HS0 := Lib.hid hS0
  have HB0 := Lib.hid hbm
  have hsz : ((w.alloc (.cells #[.int .u64 (e.ts : Nat), .int .u64 (e.first : Nat), .slice e.a e.n e.c] 40)).alloc (.map #[] 0)).heap.size = w.heap.size + 2 := by simp
  have HSz := Lib.hid hsz
  clear hM hE oM hb0 hEb hS0 hbm hsz
  go_enter Try.func16, Try.ntmps16
  go_upto_region 2 with fail
  generalize (w.alloc (.cells #[.int .u64 (e.ts : Nat), .int .u64 (e.first : Nat), .slice e.a e.n e.c] 40)).alloc (.map #[] 0) = w1 at *
  clear hM0
  go_wp2_with fail
  go_loopw [7, 13] (fun _ s13 wr => ∃ (i : Nat) (S : List KV), i ≤ nm ∧ s13 = .int .i64 i ∧ (M.take i).foldl (fun S p => put S p.1 p.2) [] = S ∧ S.length ≤ i ∧ StoreAt wr (w.heap.size + 1) S ∧ Mod [w.heap.size + 1] w1 wr) (fun _ s13 _ => nm - (intOf s13).toNat)
  case atStart => exact ⟨0, [], by omega, rfl, rfl, by simp, HS0.out, Mod.refl _ _⟩
  case round =>
    obtain ⟨i, S, hi, rfl, hSe, hlen, hS, hm⟩ := hrel
    have hbw : Below w.heap.size w wr := HB0.out.trans (hm.below (fun x hx => by simp at hx; omega) HB0.out.size)
    by_cases hlt : i < nm
    · have hil : (i : Int) < (nm : Int) := by omega
      obtain ⟨p, g, o, hp, hpz, rfl, hg, c0, c1⟩ := pairs_row (HM.out.on hbw) eM hlt
      have hBn := (Below.refl wr.heap.size wr).alloc (Nat.le_refl _) (.cells #[.string ⟨p.1.toArray⟩, .string ⟨p.2.toArray⟩] 47)
      obtain ⟨w', hrun, hS', hm'⟩ := (hS.on hBn).puts (by omega) p.1 p.2 (HO.out p hpz)
      have HS' := Lib.hid hS'
      have HM' := Lib.hid ((hm.thenBelow hBn).trans hm')
      have HNext := Lib.hid (show (M.take (i + 1)).foldl (fun S p => put S p.1 p.2) [] = put S p.1 p.2 by rw [List.take_add_one, hp, List.foldl_append, hSe]; rfl)
      have HLen := Lib.hid (show (put S p.1 p.2).length ≤ i + 1 by rw [put_length hS.asc]; split <;> omega)
      clear hS hS' hm hm' hBn hp hpz hSe hbw
      go_wp2_with fail
      go_roundw
      case rel => exact ⟨i + 1, _, by omega, by go_num, HNext.out, HLen.out, HS'.out, HM'.out⟩
      case measure => simp [intOf]; omega
    · have hge : ¬ (i : Int) < (nm : Int) := by omega
      have hin : i = M.length := by omega
      have HSe := Lib.hid (show storeOf M = S by rw [← hSe, hin, List.take_of_length_le (Nat.le_refl _)]; rfl)
      have hEb := HEb.out.mod hm (by simp)
      have z2 : wr.cell? ⟨w.heap.size, 2, none⟩ = some (.slice e.a e.n e.c) := by rw [hEb.cell]; rfl
      have HS := Lib.hid hS
      have HMo := Lib.hid hm
      have HBw := Lib.hid hbw
      generalize wr = wo at *
      clear hSe hEb hS hm hbw
      go_wp2_with fail
      clear z2
      go_loopw [9, 26] (fun _ s26 wx => ∃ (j : Nat) (M2 : List KV), j ≤ e.n ∧ s26 = .int .i64 j ∧ (x.ops.take j).foldl app S = M2 ∧ M2.length ≤ i + j ∧ StoreAt wx (w.heap.size + 1) M2 ∧ Mod [w.heap.size + 1] wo wx) (fun _ s26 _ => e.n - (intOf s26).toNat)
      case atStart => exact ⟨0, S, by omega, rfl, rfl, by omega, HS.out, Mod.refl _ _⟩
      case round =>
        obtain ⟨j, M2, hj, rfl, hM2, hlen2, hS3, hm3⟩ := hrel
        have hbw : Below w.heap.size w wr := HBw.out.trans (hm3.below (fun x hx => by simp at hx; omega) HBw.out.size)
        have hen : e.n ≤ 1000 := by rw [HE.out.n]; exact hx
        by_cases hltj : j < e.n
        · have hjl : (j : Int) < (e.n : Int) := by omega
          obtain ⟨r, g2, o2, hr, hrl, ha2, hg2, d0, d1, d2, d3⟩ := recs_row (HE.out.rows.on hbw) HE.out.n hltj
          have hD := do_any (wr.alloc (.cells #[.string ⟨r.key.toArray⟩, .int .u64 (r.lsn : Nat), .bool r.del, .string ⟨r.val.toArray⟩] 58)) (w.heap.size + 1) M2 (hS3.on ((Below.refl wr.heap.size wr).alloc (Nat.le_refl _) _)) (by omega) r ((HE.out.ok.ops r hrl).1)
          have HD := Lib.hid hD
          have HM3 := Lib.hid (hm3.thenBelow ((Below.refl wr.heap.size wr).alloc (Nat.le_refl _) (.cells #[.string ⟨r.key.toArray⟩, .int .u64 (r.lsn : Nat), .bool r.del, .string ⟨r.val.toArray⟩] 58)))
          have HNext := Lib.hid (show (x.ops.take (j + 1)).foldl app S = app M2 r by rw [List.take_add_one, hr, List.foldl_append, hM2]; rfl)
          have HLen := Lib.hid (show (app M2 r).length ≤ i + (j + 1) by have := app_length hS3.asc r; omega)
          clear hD hm3 hS3 hr hrl hM2 hbw
          rw [ha2]
          go_wp2_with fail
          refine HD.out.mono ?_
          rintro e w2 ⟨rfl, hS4, hm4⟩
          go_wp2_with fail
          go_roundw
          case rel => exact ⟨j + 1, _, by omega, by go_num, HNext.out, HLen.out, hS4, HM3.out.trans hm4⟩
          case measure => simp [intOf]; omega
        · have hje : ¬ (j : Int) < (e.n : Int) := by omega
          have hjj : j = x.ops.length := by have := HE.out.n; omega
          have HMM := Lib.hid (show M2 = applyL M x.ops by
            unfold applyL
            rw [HSe.out, ← hM2, hjj, List.take_of_length_le (Nat.le_refl _)])
          have HP := Lib.hid (pairs_any wr (w.heap.size + 1) M2 [] [] hS3 (by omega))
          have HBW := Lib.hid hbw
          clear hM2 hS3 hm3 hbw
          go_wp2_with fail
          refine HP.out.mono ?_
          rintro e w2 ⟨a2, c2, rfl, hrows, hold2, hb2⟩
          rw [sel_all, HMM.out] at hrows
          have HE2 := Lib.hid (show PairsEnd (applyL M x.ops) w (.returned (.slice a2 (sel M2 [] []).length c2)) w2 from ⟨a2, c2, by rw [sel_all, HMM.out], hrows, fun g o e => Nat.le_trans HBW.out.size (hold2 g o e), HBW.out.trans (hb2.mono HBW.out.size)⟩)
          clear hrows hold2 hb2
          go_wp2_with fail
          go_ret
          exact HE2.out
end Go.Proofs.Ytffianjbljgnaaa
