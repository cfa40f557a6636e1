/-
  The walk of coupletlaw14's same, of a message and itself. Condition: sizes that a machine has.
-/
import Derived.Test.YtnijijcbdajodaaPlain14
import Derived.Test.YtnijijcbdajodaaSettle
import Derived.Laws.StructEq
import Derived.Laws.Rows
namespace Go.Proofs.Ytnijijcbdajodaa
set_option linter.unusedVariables false
set_option linter.unusedSimpArgs false
open Go.RowKit

theorem bytes_beq (a b : List UInt8) : (ByteArray.toList ⟨a.toArray⟩ == ByteArray.toList ⟨b.toArray⟩) = (a == b) := by
  rw [← beq_toListBytes]
  show (a.toArray == b.toArray) = (a == b)
  simp

set_option maxHeartbeats 1000000 in
theorem run_neq_rec (x y : Rec) (w : World) : (binOp .neq 43 (recV x) (recV y)).run Try.prog w = .ok (.bool (decide (x ≠ y))) w := by
  have u1 := Try.underlying9
  have u2 := Try.underlying22
  have u3 := Try.underlying4
  have hS : Try.prog.underlying 43 = some (.struct (Try.prog.fieldsOf 43)) := by kernel_rfl
  have hp : Try.prog.stoodInHeld 43 = false := by kernel_rfl
  unfold recV
  rw [run_neq_struct, show (10000 : Nat) = 9999 + 1 from rfl, run_equalIn_agg w 9999 43 _ _ hS hp]
  simp only [Program.fieldsOf, Try.underlying43]
  have a1 := Try.isAgg9
  have a2 := Try.isAgg22
  have a3 := Try.isAgg4
  have z1 := Try.sizeOf9
  have z2 := Try.sizeOf22
  have z3 := Try.sizeOf4
  have bb := bytes_beq
  go_simp
  obtain ⟨xk, xl, xd, xv⟩ := x
  obtain ⟨yk, yl, yd, yv⟩ := y
  have hl : ((xl : Int) = (yl : Int)) ↔ xl = yl := Int.ofNat_inj
  simp only [hl, Rec.mk.injEq]
  by_cases h1 : xk = yk <;> by_cases h2 : xl = yl <;> by_cases h3 : xd = yd <;> by_cases h4 : xv = yv <;> simp [h1, h2, h3, h4]

theorem RecsAt.load {w : World} {p : Option Addr} {n c : Nat} {rs : List Rec} (h : RecsAt w p n c rs) (i : Nat) (hi : i < rs.length) :
    ∃ g o, p = some ⟨g, o, none⟩ ∧ g < w.heap.size ∧ w.cell? ⟨g, o + i * 4, none⟩ = some (.string ⟨rs[i].key.toArray⟩) ∧ w.cell? ⟨g, o + i * 4 + 1, none⟩ = some (.int .u64 rs[i].lsn) ∧
    w.cell? ⟨g, o + i * 4 + 2, none⟩ = some (.bool rs[i].del) ∧ w.cell? ⟨g, o + i * 4 + 3, none⟩ = some (.string ⟨rs[i].val.toArray⟩) := by
  obtain ⟨g, o, e, hg, hc⟩ := h.at_ (by rw [← h.len]; omega)
  exact ⟨g, o, e, hg, hc i hi⟩

set_option maxRecDepth 100000 in
set_option maxHeartbeats 4000000 in
theorem same_eq (m : Msg) (a b : Option Addr) (n c k d : Nat) (w : World) (ha : RecsAt w a n c m.recs) (hb : RecsAt w b k d m.recs) :
    Calls Try.prog 16 #[msgV m a n c, msgV m b k d] w fun e w' => e = .returned (.bool true) ∧ Below w.heap.size w w' := by
  obtain rfl : k = n := by rw [← ha.len, ← hb.len]
  have hmax := ha.max
  have hE : MsgAt ((w.alloc (msgObj m a k c)).alloc (msgObj m b k d)) w.heap.size m a k c := Blk.alloc (MsgAt.new w m a k c) _
  have hF : MsgAt ((w.alloc (msgObj m a k c)).alloc (msgObj m b k d)) (w.heap.size + 1) m b k d := by
    have h := MsgAt.new (w.alloc (msgObj m a k c)) m b k d
    simpa using h
  have hbl := ((Below.refl w.heap.size w).alloc (Nat.le_refl _) (msgObj m a k c)).alloc (by simp) (msgObj m b k d)
  have ha1 := ha.on hbl
  have hb1 := hb.on hbl
  unfold msgObj at hE hF hbl ha1 hb1
  unfold msgV
  clear ha hb
  go_enter Try.func16, Try.ntmps16
  go_upto_region 1 with fail
  have hEF : w.heap.size ≠ w.heap.size + 1 := by omega
  have hE1 := hE.lt
  have hF1 := hF.lt
  have hwl : w.heap.size ≤ w.heap.size + 1 := by omega
  generalize (w.alloc (.cells #[.int .i64 m.kind, .int .u64 m.te, .int .u64 m.di, .int .u64 m.id, .int .u64 m.lsn, .int .u64 m.low, .string ⟨m.key.toArray⟩, .string ⟨m.hi.toArray⟩, .bool m.del, .bool m.found, .string ⟨m.val.toArray⟩, .slice a k c, .int .i64 m.err] 26)).alloc (.cells #[.int .i64 m.kind, .int .u64 m.te, .int .u64 m.di, .int .u64 m.id, .int .u64 m.lsn, .int .u64 m.low, .string ⟨m.key.toArray⟩, .string ⟨m.hi.toArray⟩, .bool m.del, .bool m.found, .string ⟨m.val.toArray⟩, .slice b k d, .int .i64 m.err] 26) = w1 at *
  generalize hEe : w.heap.size = E at *
  generalize E + 1 = F at *
  have HC := Lib.hid (show ∀ w', Below w1.heap.size w1 w' → w'.cell? ⟨E, 11, none⟩ = some (.slice a k c) ∧ w'.cell? ⟨F, 11, none⟩ = some (.slice b k d) from fun w' hb => by
    have h1 : MsgAt w' E m a k c := Blk.on hE hb
    have h2 : MsgAt w' F m b k d := Blk.on hF hb
    exact ⟨h1.cells.2.2.2.2.2.2.2.2.2.2.2.1, h2.cells.2.2.2.2.2.2.2.2.2.2.2.1⟩)
  have HD := Lib.hid (show ∀ w', Below w1.heap.size w1 w' → w'.cell? ⟨E, 0, none⟩ = some (.int .i64 m.kind) ∧ w'.cell? ⟨F, 0, none⟩ = some (.int .i64 m.kind) ∧ w'.cell? ⟨E, 1, none⟩ = some (.int .u64 m.te) ∧ w'.cell? ⟨F, 1, none⟩ = some (.int .u64 m.te) ∧ w'.cell? ⟨E, 2, none⟩ = some (.int .u64 m.di) ∧ w'.cell? ⟨F, 2, none⟩ = some (.int .u64 m.di) ∧ w'.cell? ⟨E, 3, none⟩ = some (.int .u64 m.id) ∧ w'.cell? ⟨F, 3, none⟩ = some (.int .u64 m.id) ∧ w'.cell? ⟨E, 4, none⟩ = some (.int .u64 m.lsn) ∧ w'.cell? ⟨F, 4, none⟩ = some (.int .u64 m.lsn) ∧ w'.cell? ⟨E, 5, none⟩ = some (.int .u64 m.low) ∧ w'.cell? ⟨F, 5, none⟩ = some (.int .u64 m.low) ∧ w'.cell? ⟨E, 6, none⟩ = some (.string ⟨m.key.toArray⟩) ∧ w'.cell? ⟨F, 6, none⟩ = some (.string ⟨m.key.toArray⟩) ∧ w'.cell? ⟨E, 7, none⟩ = some (.string ⟨m.hi.toArray⟩) ∧ w'.cell? ⟨F, 7, none⟩ = some (.string ⟨m.hi.toArray⟩) ∧ w'.cell? ⟨E, 8, none⟩ = some (.bool m.del) ∧ w'.cell? ⟨F, 8, none⟩ = some (.bool m.del) ∧ w'.cell? ⟨E, 9, none⟩ = some (.bool m.found) ∧ w'.cell? ⟨F, 9, none⟩ = some (.bool m.found) ∧ w'.cell? ⟨E, 10, none⟩ = some (.string ⟨m.val.toArray⟩) ∧ w'.cell? ⟨F, 10, none⟩ = some (.string ⟨m.val.toArray⟩) ∧ w'.cell? ⟨E, 12, none⟩ = some (.int .i64 m.err) ∧ w'.cell? ⟨F, 12, none⟩ = some (.int .i64 m.err) from fun w' hb => by
    have h1 : MsgAt w' E m a k c := Blk.on hE hb
    have h2 : MsgAt w' F m b k d := Blk.on hF hb
    obtain ⟨c0, c1, c2, c3, c4, c5, c6, c7, c8, c9, c10, c11, c12⟩ := h1.cells
    obtain ⟨d0, d1, d2, d3, d4, d5, d6, d7, d8, d9, d10, d11, d12⟩ := h2.cells
    exact ⟨c0, d0, c1, d1, c2, d2, c3, d3, c4, d4, c5, d5, c6, d6, c7, d7, c8, d8, c9, d9, c10, d10, c12, d12⟩)
  obtain ⟨g1, g2⟩ := HC.out w1 (Below.refl _ _)
  clear hE hF
  go_wp2_with fail
  go_loopw [5] (fun s5 wr => ∃ i : Nat, s5 = .int .i64 i ∧ i ≤ k ∧ Below w1.heap.size w1 wr) (fun s5 _ => k - (intOf s5).toNat)
  case atStart => exact ⟨0, rfl, by omega, Below.refl _ _⟩
  case round =>
    obtain ⟨i, rfl, hi, hbr⟩ := hrel
    have hbE := hbl.trans (hbr.mono (show E ≤ w1.heap.size by omega))
    clear g1 g2
    obtain ⟨g1, g2⟩ := HC.out wr hbr
    by_cases hlt : i < k
    · have hxl := ha1.len
      obtain ⟨g, o, rfl, hg, x0, x1, x2, x3⟩ := (ha1.on hbr).load i (by omega)
      obtain ⟨g', o', rfl, hg', y0, y1, y2, y3⟩ := (hb1.on hbr).load i (by omega)
      generalize m.recs[i]'(by omega) = r at *
      have hcmp : ∀ w, _ := fun w => run_neq_rec r r w
      rw [show decide (r ≠ r) = false from by simp] at hcmp
      unfold recV at hcmp
      clear hxl
      have HG := Lib.hid (show ∀ w', Below wr.heap.size wr w' → w'.cell? ⟨E, 11, none⟩ = some (.slice (some ⟨g, o, none⟩) k c) ∧ w'.cell? ⟨F, 11, none⟩ = some (.slice (some ⟨g', o', none⟩) k d) ∧
          w'.cell? ⟨g, o + i * 4, none⟩ = some (.string ⟨r.key.toArray⟩) ∧ w'.cell? ⟨g, o + i * 4 + 1, none⟩ = some (.int .u64 r.lsn) ∧ w'.cell? ⟨g, o + i * 4 + 2, none⟩ = some (.bool r.del) ∧ w'.cell? ⟨g, o + i * 4 + 3, none⟩ = some (.string ⟨r.val.toArray⟩) ∧
          w'.cell? ⟨g', o' + i * 4, none⟩ = some (.string ⟨r.key.toArray⟩) ∧ w'.cell? ⟨g', o' + i * 4 + 1, none⟩ = some (.int .u64 r.lsn) ∧ w'.cell? ⟨g', o' + i * 4 + 2, none⟩ = some (.bool r.del) ∧ w'.cell? ⟨g', o' + i * 4 + 3, none⟩ = some (.string ⟨r.val.toArray⟩) from fun w' hb => by
        obtain ⟨z1, z2⟩ := HC.out w' (hbr.on hb)
        exact ⟨z1, z2, (hb.cell (p := ⟨g, o + i * 4, none⟩) hg).trans x0, (hb.cell (p := ⟨g, o + i * 4 + 1, none⟩) hg).trans x1, (hb.cell (p := ⟨g, o + i * 4 + 2, none⟩) hg).trans x2, (hb.cell (p := ⟨g, o + i * 4 + 3, none⟩) hg).trans x3,
          (hb.cell (p := ⟨g', o' + i * 4, none⟩) hg').trans y0, (hb.cell (p := ⟨g', o' + i * 4 + 1, none⟩) hg').trans y1, (hb.cell (p := ⟨g', o' + i * 4 + 2, none⟩) hg').trans y2, (hb.cell (p := ⟨g', o' + i * 4 + 3, none⟩) hg').trans y3⟩)
      clear x0 x1 x2 x3 y0 y1 y2 y3
      go_upto_region 6 with fail
      refine wp_region_settle (Below wr.heap.size wr) (by kernel_rfl) (by kernel_rfl) (by kernel_rfl) (below_drew (Below.refl _ _)) ?_
      repeat (first
        | (refine settled_not ?_ ?_
           · rfl
           simp only [Act.put, List.setIfInBounds_toArray, List.set_cons_zero, List.set_cons_succ])
        | (refine settled_val (v := ?_) ?_ (fun w' hS => ?_) ?_
           rotate_left
           · rfl
           · obtain ⟨k0, k1, k2, k3, k4, k5, k6, k7, k8, k9⟩ := HG.out w' hS
             go_simp
             with_reducible rfl
           simp only [Act.put, List.setIfInBounds_toArray, List.set_cons_zero, List.set_cons_succ]))
      refine settled_nil (fun w' hS => ?_)
      go_wp2_with fail
      refine ⟨⟨i + 1, by simp, by omega, hbr.on hS⟩, by simp [intOf]; omega⟩
    · have hik : k ≤ i := by omega
      obtain ⟨c0, d0, c1, d1, c2, d2, c3, d3, c4, d4, c5, d5, c6, d6, c7, d7, c8, d8, c9, d9, c10, d10, c12, d12⟩ := HD.out wr hbr
      clear HC HD hE1 hF1 hEF
      go_wp2_with fail
      refine bodyPost_ret (results_tmp rfl _ _ _) rfl ⟨rfl, hEe ▸ hbE⟩
end Go.Proofs.Ytnijijcbdajodaa
