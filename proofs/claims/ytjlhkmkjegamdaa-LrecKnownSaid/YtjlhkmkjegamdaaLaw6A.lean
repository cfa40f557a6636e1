/-
  The walks of coupletlaw06's one and same.
-/
import Derived.Test.YtjlhkmkjegamdaaLrecZ
import Derived.Laws.StructEq
import Derived.Laws.Rows
namespace Go.Proofs.Ytjlhkmkjegamdaa
set_option linter.unusedVariables false
set_option linter.unusedSimpArgs false
open Go.RowKit

def oneE : Entry := ⟨1, 2, [⟨[97], 2, false, [98]⟩]⟩
/-- An entry comes back, in memory of its own. -/
def EntryEnds (w : World) (x : Entry) (e : Ending) (w' : World) : Prop :=
  Below w.heap.size w w' ∧ ∃ a n c, e = .returned (entryV x.ts x.first a n c) ∧ RecsAt w' a n c x.ops

theorem results_entry1 {fn : Func} {p : Tmp} (h : fn.results = #[.cell p 27]) (tmps : Array Value) {w : World} {b ts first n c : Nat} {a : Option Addr} (hp : tmps.getD p undef = .pointer (some ⟨b, 0, none⟩))
    (hE : Blk w b (entryCells ts first a n c) 27) : (results fn tmps).run Try.prog w = .ok (entryV ts first a n c) w :=
  results_cell_row h tmps w b 27 _ (0, 0) _ hp hE Try.underlying27 rfl (by kernel_rfl)

set_option maxHeartbeats 1000000 in
theorem one_any (w : World) : Calls Try.prog 20 #[] w (EntryEnds w oneE) := by
  go_enter Try.func20, Try.ntmps20
  go_wp2_with fail
  have hE : Blk ((w.alloc (.cells #[.int .u64 1, .int .u64 2, .slice (some ⟨w.heap.size + 1, 0, none⟩) 1 1] 27)).alloc (.cells #[.string ⟨#[97]⟩, .int .u64 2, .bool false, .string ⟨#[98]⟩] 24)) w.heap.size (entryCells 1 2 (some ⟨w.heap.size + 1, 0, none⟩) 1 1) 27 := (Blk.new w (entryCells 1 2 (some ⟨w.heap.size + 1, 0, none⟩) 1 1) 27).alloc _
  have hR : Blk ((w.alloc (.cells #[.int .u64 1, .int .u64 2, .slice (some ⟨w.heap.size + 1, 0, none⟩) 1 1] 27)).alloc (.cells #[.string ⟨#[97]⟩, .int .u64 2, .bool false, .string ⟨#[98]⟩] 24)) (w.heap.size + 1) [.string ⟨#[97]⟩, .int .u64 2, .bool false, .string ⟨#[98]⟩] 24 := by
    have h := Blk.new (w.alloc (.cells #[.int .u64 1, .int .u64 2, .slice (some ⟨w.heap.size + 1, 0, none⟩) 1 1] 27)) [.string ⟨#[97]⟩, .int .u64 2, .bool false, .string ⟨#[98]⟩] 24
    simpa using h
  have hb := ((Below.refl w.heap.size w).alloc (Nat.le_refl _) (.cells #[.int .u64 1, .int .u64 2, .slice (some ⟨w.heap.size + 1, 0, none⟩) 1 1] 27)).alloc (by simp) (.cells #[.string ⟨#[97]⟩, .int .u64 2, .bool false, .string ⟨#[98]⟩] 24)
  refine bodyPost_ret (results_entry1 rfl _ rfl hE) rfl ⟨hb, _, _, _, rfl, ?_⟩
  refine ⟨rfl, Nat.le_refl _, by omega, fun _ => ⟨_, 0, rfl, hR.lt, fun i hi => ?_⟩⟩
  have hi0 : i = 0 := by simp [oneE] at hi; omega
  subst hi0
  refine ⟨?_, ?_, ?_, ?_⟩ <;> (rw [hR.cell]; rfl)

theorem bytes_beq (a b : List UInt8) : (ByteArray.toList ⟨a.toArray⟩ == ByteArray.toList ⟨b.toArray⟩) = (a == b) := by
  rw [← beq_toListBytes]
  show (a.toArray == b.toArray) = (a == b)
  simp

set_option maxHeartbeats 1000000 in
theorem run_neq_rec (x y : Rec) (w : World) : (binOp .neq 24 (recV x) (recV y)).run Try.prog w = .ok (.bool (decide (x ≠ y))) w := by
  have u1 := Try.underlying9
  have u2 := Try.underlying22
  have u3 := Try.underlying4
  have hS : Try.prog.underlying 24 = some (.struct (Try.prog.fieldsOf 24)) := by kernel_rfl
  have hp : Try.prog.stoodInHeld 24 = false := by kernel_rfl
  unfold recV
  rw [run_neq_struct, show (10000 : Nat) = 9999 + 1 from rfl, run_equalIn_agg w 9999 24 _ _ hS hp]
  simp only [Program.fieldsOf, Try.underlying24]
  have a1 := Try.isAgg9
  have a2 := Try.isAgg22
  have a3 := Try.isAgg4
  have z1 := Try.sizeOf9
  have z2 := Try.sizeOf22
  have z3 := Try.sizeOf4
  have bb := bytes_beq
  go_simp
  obtain ⟨xk, xl, xd, xv⟩ := x
  obtain ⟨yk, yl, yd, yv⟩ := y
  have hl : ((xl : Int) = (yl : Int)) ↔ xl = yl := Int.ofNat_inj
  simp only [hl, Rec.mk.injEq]
  by_cases h1 : xk = yk <;> by_cases h2 : xl = yl <;> by_cases h3 : xd = yd <;> by_cases h4 : xv = yv <;> simp [h1, h2, h3, h4]

theorem RecsAt.load {w : World} {p : Option Addr} {n c : Nat} {rs : List Rec} (h : RecsAt w p n c rs) (i : Nat) (hi : i < rs.length) :
    ∃ g o, p = some ⟨g, o, none⟩ ∧ g < w.heap.size ∧ w.cell? ⟨g, o + i * 4, none⟩ = some (.string ⟨rs[i].key.toArray⟩) ∧ w.cell? ⟨g, o + i * 4 + 1, none⟩ = some (.int .u64 rs[i].lsn) ∧
    w.cell? ⟨g, o + i * 4 + 2, none⟩ = some (.bool rs[i].del) ∧ w.cell? ⟨g, o + i * 4 + 3, none⟩ = some (.string ⟨rs[i].val.toArray⟩) := by
  obtain ⟨g, o, e, hg, hc⟩ := h.at_ (by rw [← h.len]; omega)
  exact ⟨g, o, e, hg, hc i hi⟩

set_option maxHeartbeats 2000000 in
theorem same_any (x y : Entry) (a b : Option Addr) (n c m d : Nat) (w : World) (ha : RecsAt w a n c x.ops) (hb : RecsAt w b m d y.ops) :
    Calls Try.prog 19 #[entryV x.ts x.first a n c, entryV y.ts y.first b m d] w fun e w' => e = .returned (.bool (decide (x = y))) ∧ Below w.heap.size w w' := by
  unfold entryV
  go_enter Try.func19, Try.ntmps19
  go_upto_region 1 with fail
  have hE : Blk ((w.alloc (.cells #[.int .u64 x.ts, .int .u64 x.first, .slice a n c] 27)).alloc (.cells #[.int .u64 y.ts, .int .u64 y.first, .slice b m d] 27)) w.heap.size (entryCells x.ts x.first a n c) 27 := (Blk.new w (entryCells x.ts x.first a n c) 27).alloc _
  have hF : Blk ((w.alloc (.cells #[.int .u64 x.ts, .int .u64 x.first, .slice a n c] 27)).alloc (.cells #[.int .u64 y.ts, .int .u64 y.first, .slice b m d] 27)) (w.heap.size + 1) (entryCells y.ts y.first b m d) 27 := by
    rw [show w.heap.size + 1 = (w.alloc (.cells #[.int .u64 x.ts, .int .u64 x.first, .slice a n c] 27)).heap.size from by simp]
    exact Blk.new _ _ _
  have hbl := ((Below.refl w.heap.size w).alloc (Nat.le_refl _) (.cells #[.int .u64 x.ts, .int .u64 x.first, .slice a n c] 27)).alloc (by simp) (.cells #[.int .u64 y.ts, .int .u64 y.first, .slice b m d] 27)
  have ha1 := ha.on hbl
  have hb1 := hb.on hbl
  have hEF : w.heap.size ≠ w.heap.size + 1 := by omega
  generalize (w.alloc (.cells #[.int .u64 x.ts, .int .u64 x.first, .slice a n c] 27)).alloc (.cells #[.int .u64 y.ts, .int .u64 y.first, .slice b m d] 27) = w1 at *
  generalize hEe : w.heap.size = E at *
  generalize E + 1 = F at *
  clear ha hb
  obtain ⟨e0, e1, e2⟩ := entry_load hE
  obtain ⟨f0, f1, f2⟩ := entry_load hF
  have hE1 := hE.lt
  have hF1 := hF.lt
  clear hE hF
  obtain ⟨xt, xf, xs⟩ := x
  obtain ⟨yt, yf, ys⟩ := y
  simp only at *
  by_cases h1 : xt = yt
  · have h1b : ((xt : Int) != (yt : Int)) = false := by simp [h1]
    by_cases h2 : xf = yf
    · have h2b : ((xf : Int) != (yf : Int)) = false := by simp [h2]
      by_cases h3 : n = m
      · have h3b : ((n : Int) != (m : Int)) = false := by simp [h3]
        subst h3
        have hxl := ha1.len
        have hyl := hb1.len
        have hmax := ha1.max
        go_wp2_with fail
        go_loopw [5] (fun s5 wr => ∃ k : Nat, s5 = .int .i64 k ∧ k ≤ n ∧ Below w1.heap.size w1 wr ∧ ∀ i, i < k → xs[i]? = ys[i]?) (fun s5 _ => n - (intOf s5).toNat)
        case atStart => exact ⟨0, rfl, by omega, Below.refl _ _, fun i hi => by omega⟩
        case round =>
          obtain ⟨k, rfl, hk, hbr, hsame⟩ := hrel
          have hbE := hbl.trans (hbr.mono (show E ≤ w1.heap.size by omega))
          have k0 : wr.cell? ⟨E, 0, none⟩ = some (.int .u64 xt) := (hbr.cell (p := ⟨E, 0, none⟩) hE1).trans e0
          have k2 : wr.cell? ⟨E, 2, none⟩ = some (.slice a n c) := (hbr.cell (p := ⟨E, 2, none⟩) hE1).trans e2
          have l2 : wr.cell? ⟨F, 2, none⟩ = some (.slice b n d) := (hbr.cell (p := ⟨F, 2, none⟩) hF1).trans f2
          by_cases hlt : k < n
          · obtain ⟨g, o, rfl, hg, x0, x1, x2, x3⟩ := (ha1.on hbr).load k (by omega)
            obtain ⟨g', o', rfl, hg', y0, y1, y2, y3⟩ := (hb1.on hbr).load k (by omega)
            have gx : xs[k]? = some (xs[k]'(by omega)) := List.getElem?_eq_getElem (by omega)
            have gy : ys[k]? = some (ys[k]'(by omega)) := List.getElem?_eq_getElem (by omega)
            generalize xs[k]'(by omega) = r at *
            generalize ys[k]'(by omega) = q at *
            by_cases hrq : r = q
            · have hcmp : ∀ w, _ := fun w => run_neq_rec r q w
              rw [show decide (r ≠ q) = false from by simp [hrq]] at hcmp
              unfold recV at hcmp
              go_wp2_with fail
              go_region
              go_wp2_with fail
              refine ⟨⟨k + 1, by simp, by omega, below_drew hbr, fun i hi => ?_⟩, by simp [intOf]; omega⟩
              by_cases hik : i = k
              · rw [hik, gx, gy, hrq]
              · exact hsame i (by omega)
            · have hcmp : ∀ w, _ := fun w => run_neq_rec r q w
              rw [show decide (r ≠ q) = true from by simp [hrq]] at hcmp
              unfold recV at hcmp
              have hne : ¬ (⟨xt, xf, xs⟩ : Entry) = ⟨yt, yf, ys⟩ := by
                intro e
                cases e
                rw [gx] at gy
                exact hrq (Option.some.inj gy)
              go_wp2_with fail
              go_region
              go_wp2_with fail
              refine bodyPost_ret (results_tmp rfl _ _ _) rfl ⟨?_, hEe ▸ below_drew hbE⟩
              rw [decide_eq_false hne]
              rfl
          · have hkn : k = n := by omega
            have hee : (⟨xt, xf, xs⟩ : Entry) = ⟨yt, yf, ys⟩ := by
              have hl : xs = ys := by
                apply List.ext_getElem?
                intro i
                by_cases hi : i < k
                · exact hsame i hi
                · rw [List.getElem?_eq_none (by omega), List.getElem?_eq_none (by omega)]
              rw [h1, h2, hl]
            go_wp2_with fail
            refine bodyPost_ret (results_tmp rfl _ _ _) rfl ⟨?_, hEe ▸ hbE⟩
            rw [decide_eq_true hee]
            rfl
      · have h3b : ((n : Int) != (m : Int)) = true := by simp; omega
        have hne : ¬ (⟨xt, xf, xs⟩ : Entry) = ⟨yt, yf, ys⟩ := by
          intro e
          cases e
          exact h3 (ha1.len.symm.trans hb1.len)
        go_wp2_with fail
        refine bodyPost_ret (results_tmp rfl _ _ _) rfl ⟨?_, hEe ▸ hbl⟩
        rw [decide_eq_false hne]
        rfl
    · have h2b : ((xf : Int) != (yf : Int)) = true := by simp; omega
      have hne : ¬ (⟨xt, xf, xs⟩ : Entry) = ⟨yt, yf, ys⟩ := by
        intro e
        cases e
        exact h2 rfl
      go_wp2_with fail
      refine bodyPost_ret (results_tmp rfl _ _ _) rfl ⟨?_, hEe ▸ hbl⟩
      rw [decide_eq_false hne]
      rfl
  · have h1b : ((xt : Int) != (yt : Int)) = true := by simp; omega
    have hne : ¬ (⟨xt, xf, xs⟩ : Entry) = ⟨yt, yf, ys⟩ := by
      intro e
      cases e
      exact h1 rfl
    go_wp2_with fail
    refine bodyPost_ret (results_tmp rfl _ _ _) rfl ⟨?_, hEe ▸ hbl⟩
    rw [decide_eq_false hne]
    rfl
end Go.Proofs.Ytjlhkmkjegamdaa
