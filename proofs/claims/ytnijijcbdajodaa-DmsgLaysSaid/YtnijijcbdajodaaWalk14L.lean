/-
  The walk of DmsgLays.
-/
import Derived.Test.YtnijijcbdajodaaHelp14
import Derived.Test.YtnijijcbdajodaaRef14E
namespace Go.Proofs.Ytnijijcbdajodaa
set_option linter.unusedVariables false
set_option linter.unusedSimpArgs false
open Go.RowKit

set_option maxRecDepth 100000 in
set_option maxHeartbeats 2000000 in
theorem lays_any (m : Msg) (a : Option Addr) (n c : Nat) (w : World) (h : RecsAt w a n c m.recs) (hok : m.ok) :
    Calls Try.prog 3 #[msgV m a n c] w fun e w' => e = .returned (.bool true) ∧ Below w.heap.size w w' := by
  have hE := MsgAt.new w m a n c
  have hb0 := (Below.refl w.heap.size w).alloc (Nat.le_refl _) (msgObj m a n c)
  have hr0 := h.on hb0
  have hold : ∀ g o, a = some ⟨g, o, none⟩ → 0 < n → g < w.heap.size := fun g o e hn => h.old hn g o e
  unfold msgObj at hE hb0 hr0
  unfold msgV
  go_enter Try.func3, Try.ntmps3
  go_upto_region 1 with fail
  generalize w.alloc (.cells #[.int .i64 m.kind, .int .u64 m.te, .int .u64 m.di, .int .u64 m.id, .int .u64 m.lsn, .int .u64 m.low, .string ⟨m.key.toArray⟩, .string ⟨m.hi.toArray⟩, .bool m.del, .bool m.found, .string ⟨m.val.toArray⟩, .slice a n c, .int .i64 m.err] 26) = w0 at *
  clear h
  have hE1 : MsgAt w0 w.heap.size m a n c := hE
  have hr1 := hr0
  have hbb1 := hb0
  clear hE hb0 hr0
  generalize hm : min n 505 = q
  have hm1 : q ≤ n := by omega
  have hm2 : q ≤ 505 := by omega
  have hnc := hr1.cap
  have hnm := hr1.max
  have c11 := hE1.cells.2.2.2.2.2.2.2.2.2.2.2.1
  have z11 := Blk.free hE1 11
  have hmin : ∀ w', (Builtin.min_ #[3, 3] 3 #[.int .i64 n, .int .i64 505]).run Try.prog w' = .ok (.int .i64 q) w' := by
    intro w'
    rw [run_min_int2, show (if (505 : Int) < n then (505 : Int) else n) = q from by split <;> omega]
  have hE2 : MsgAt (w0.setCell ⟨w.heap.size, 11, none⟩ (.slice a q c)) w.heap.size (m.cut q) a q c := Blk.set hE1 11 _
  have hbb2 := hbb1.setCell (p := ⟨w.heap.size, 11, none⟩) (Nat.le_refl _) (.slice a q c)
  have hr2 : RecsAt (w0.setCell ⟨w.heap.size, 11, none⟩ (.slice a q c)) a q c (m.cut q).recs := (hr1.take q hm1).other0 ⟨w.heap.size, 11, none⟩ (.slice a q c) (fun hn g o e => by
    have := hold g o e (by omega)
    show g ≠ w.heap.size
    omega)
  have hok2 := hok.cut q
  clear hE1 hr1 hbb1 hm
  go_upto_region 2 with fail
  generalize w0.setCell ⟨w.heap.size, 11, none⟩ (.slice a q c) = w2 at *
  clear c11 z11 hold hmin hok
  have HB := Lib.hid (show ∀ w', Below w2.heap.size w2 w' → w'.cell? ⟨w.heap.size, 0, none⟩ = some (.int .i64 m.kind) ∧ w'.cell? ⟨w.heap.size, 1, none⟩ = some (.int .u64 m.te) ∧ w'.cell? ⟨w.heap.size, 2, none⟩ = some (.int .u64 m.di) ∧ w'.cell? ⟨w.heap.size, 3, none⟩ = some (.int .u64 m.id) ∧ w'.cell? ⟨w.heap.size, 4, none⟩ = some (.int .u64 m.lsn) ∧ w'.cell? ⟨w.heap.size, 5, none⟩ = some (.int .u64 m.low) ∧
      w'.cell? ⟨w.heap.size, 6, none⟩ = some (.string ⟨m.key.toArray⟩) ∧ w'.cell? ⟨w.heap.size, 7, none⟩ = some (.string ⟨m.hi.toArray⟩) ∧ w'.cell? ⟨w.heap.size, 8, none⟩ = some (.bool m.del) ∧ w'.cell? ⟨w.heap.size, 9, none⟩ = some (.bool m.found) ∧ w'.cell? ⟨w.heap.size, 10, none⟩ = some (.string ⟨m.val.toArray⟩) ∧ w'.cell? ⟨w.heap.size, 11, none⟩ = some (.slice a q c) ∧ w'.cell? ⟨w.heap.size, 12, none⟩ = some (.int .i64 m.err) from fun w' hb => by
    have h1 : MsgAt w' w.heap.size (m.cut q) a q c := Blk.on hE2 hb
    exact h1.cells)
  have HV := Lib.hid (show msgV (m.cut q) a q c = .agg #[.int .i64 m.kind, .int .u64 m.te, .int .u64 m.di, .int .u64 m.id, .int .u64 m.lsn, .int .u64 m.low, .string ⟨m.key.toArray⟩, .string ⟨m.hi.toArray⟩, .bool m.del, .bool m.found, .string ⟨m.val.toArray⟩, .slice a q c, .int .i64 m.err] from rfl)
  have hen := fun (w' : World) (hb : Below w2.heap.size w2 w') => (encode_any (m.cut q) a q c w' (hr2.on hb) hok2).mono (R' := fun e w'' => e = .returned (.tuple #[.string ⟨(encM (m.cut q)).toArray⟩, .int .i64 (checkM (m.cut q))]) ∧ Below w2.heap.size w2 w'') fun e w'' ⟨h1, h2⟩ => ⟨h1, hb.on h2⟩
  have hre := fun (w' : World) (hb : Below w2.heap.size w2 w') => (rEncode_any (m.cut q) a q c w' (hr2.on hb) hok2).mono (R' := fun e w'' => e = .returned (.tuple #[.string ⟨(encM (m.cut q)).toArray⟩, .int .i64 (checkM (m.cut q))]) ∧ Below w2.heap.size w2 w'') fun e w'' ⟨h1, h2⟩ => ⟨h1, hb.on h2⟩
  have hch := fun (w' : World) (hb : Below w2.heap.size w2 w') => (check_any (m.cut q) a q c w' (hr2.on hb) hok2).mono (R' := fun e w'' => e = .returned (.int .i64 (checkM (m.cut q))) ∧ Below w2.heap.size w2 w'') fun e w'' ⟨h1, h2⟩ => ⟨h1, hb.on h2⟩
  have hrc := fun (w' : World) (hb : Below w2.heap.size w2 w') => (rCheck_any (m.cut q) a q c w' (hr2.on hb) hok2).mono (R' := fun e w'' => e = .returned (.int .i64 (checkM (m.cut q))) ∧ Below w2.heap.size w2 w'') fun e w'' ⟨h1, h2⟩ => ⟨h1, hb.on h2⟩
  rw [HV.out] at hen hre hch hrc
  have Hen := Lib.hid hen
  have Hre := Lib.hid hre
  have Hch := Lib.hid hch
  have Hrc := Lib.hid hrc
  clear hen hre hch hrc hr2 hE2 hok2 HV
  generalize encM (m.cut q) = s at *
  generalize checkM (m.cut q) = e0 at *
  obtain ⟨c0, c1, c2, c3, c4, c5, c6, c7, c8, c9, c10, c11, c12⟩ := HB.out w2 (Below.refl _ _)
  go_wp2_with fail
  refine (Hen.out w2 (Below.refl _ _)).mono ?_
  rintro e w3 ⟨rfl, hb3⟩
  clear c0 c1 c2 c3 c4 c5 c6 c7 c8 c9 c10 c11 c12
  obtain ⟨c0, c1, c2, c3, c4, c5, c6, c7, c8, c9, c10, c11, c12⟩ := HB.out w3 hb3
  go_wp2_with fail
  refine (Hre.out w3 hb3).mono ?_
  rintro e w4 ⟨rfl, hb4⟩
  clear c0 c1 c2 c3 c4 c5 c6 c7 c8 c9 c10 c11 c12
  go_upto_region 4 with fail
  refine wp_region_settle (Below w2.heap.size w2) (by kernel_rfl) (by kernel_rfl) (by kernel_rfl) (below_drew hb4) ?_
  repeat (first
    | (refine settled_not ?_ ?_
       · rfl
       simp only [Act.put, List.setIfInBounds_toArray, List.set_cons_zero, List.set_cons_succ])
    | (refine settled_val (v := ?_) ?_ (fun w' hS => ?_) ?_
       rotate_left
       · rfl
       · obtain ⟨c0, c1, c2, c3, c4, c5, c6, c7, c8, c9, c10, c11, c12⟩ := HB.out w' hS
         go_simp
         with_reducible rfl
       simp only [Act.put, List.setIfInBounds_toArray, List.set_cons_zero, List.set_cons_succ])
    | (refine settled_call (f := 10) (v := .int .i64 e0) ?_ (fun w' hS => ?_) (fun w' hS => Hch.out w' hS) ?_
       · rfl
       · go_simp
       simp only [Act.put, List.setIfInBounds_toArray, List.set_cons_zero, List.set_cons_succ])
    | (refine settled_call (f := 11) (v := .int .i64 e0) ?_ (fun w' hS => ?_) (fun w' hS => Hrc.out w' hS) ?_
       · rfl
       · go_simp
       simp only [Act.put, List.setIfInBounds_toArray, List.set_cons_zero, List.set_cons_succ])
    | (refine settled_call (f := 12) (v := .bool true) ?_ (fun w' hS => ?_) (fun w' hS => kept works_any w2 w' hS) ?_
       · rfl
       · go_simp
       simp only [Act.put, List.setIfInBounds_toArray, List.set_cons_zero, List.set_cons_succ]))
  refine settled_nil (fun w' hS => ?_)
  go_wp2_with fail
  refine bodyPost_ret (results_tmp rfl _ _ _) rfl ⟨rfl, hbb2.on hS⟩
end Go.Proofs.Ytnijijcbdajodaa
