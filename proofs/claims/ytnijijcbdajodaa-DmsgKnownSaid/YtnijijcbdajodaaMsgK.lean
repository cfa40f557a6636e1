/-
  The walk of package dmsg's Check, of any message. Condition: sizes that a machine has.
-/
import Derived.Test.YtnijijcbdajodaaMsgC
namespace Go.Proofs.Ytnijijcbdajodaa
set_option linter.unusedVariables false
set_option linter.unusedSimpArgs false
open Go.RowKit

theorem keepNX {w : World} {b : Nat} {k : Int} (hf : rulesF k = none) (hk : (Lit.int .i64 k).wf = true) (w0 : World) (h0 : w.cell? ⟨b, 0, none⟩ = some (.int .i64 k)) (hb : Below w0.heap.size w0 w) (hlt : b < w0.heap.size) (X : Nat) (hX : Blk w X [.nilFunc, .nilFunc] 54) :
    Calls Try.prog 28 #[] w fun e w' => ∃ q, e = .returned (.map (some q)) ∧ (Instr.lookup 56 (.map (some q)) (.int .i64 k) true).run Try.prog w' = .ok (.tuple #[.agg #[.nilFunc, .nilFunc], .bool false]) w' ∧ w'.cell? ⟨b, 0, none⟩ = some (.int .i64 k) ∧ Below w0.heap.size w0 w' ∧
      w'.cell? ⟨X, 0, none⟩ = some .nilFunc ∧ w'.cell? ⟨X, 1, none⟩ = some .nilFunc ∧ w'.frozen? ⟨X, 0, none⟩ = false ∧ w'.frozen? ⟨X, 1, none⟩ = false ∧ Blk w' X [.nilFunc, .nilFunc] 54 :=
  (rules_any w).mono fun e w' ⟨hw, q, he, hr⟩ => by
    have hB := hX.on hw
    exact ⟨q, he, by rw [hr.look k hk, hf], (hw.cell (p := ⟨b, 0, none⟩) (Nat.lt_of_lt_of_le hlt hb.size)).trans h0, hb.on hw, by rw [hB.cell]; rfl, by rw [hB.cell]; rfl, hB.free _, hB.free _, hB⟩
theorem keepN2 {w : World} {b : Nat} {k : Int} (hf : rulesF k = none) (hk : (Lit.int .i64 k).wf = true) (w0 : World) (h0 : w.cell? ⟨b, 0, none⟩ = some (.int .i64 k)) (hb : Below w0.heap.size w0 w) (hlt : b < w0.heap.size) :
    Calls Try.prog 28 #[] w fun e w' => ∃ q, e = .returned (.map (some q)) ∧ (Instr.lookup 56 (.map (some q)) (.int .i64 k) true).run Try.prog w' = .ok (.tuple #[.agg #[.nilFunc, .nilFunc], .bool false]) w' ∧
      (Instr.lookup 56 (.map (some q)) (.int .i64 k) true).run Try.prog (w'.alloc (.cells #[.nilFunc, .nilFunc] 54)) = .ok (.tuple #[.agg #[.nilFunc, .nilFunc], .bool false]) (w'.alloc (.cells #[.nilFunc, .nilFunc] 54)) ∧ w'.cell? ⟨b, 0, none⟩ = some (.int .i64 k) ∧ Below w0.heap.size w0 w' :=
  (rules_any w).mono fun e w' ⟨hw, q, he, hr⟩ => ⟨q, he, by rw [hr.look k hk, hf], by rw [(hr.on ((Below.refl _ _).alloc (Nat.le_refl _) _)).look k hk, hf], (hw.cell (p := ⟨b, 0, none⟩) (Nat.lt_of_lt_of_le hlt hb.size)).trans h0, hb.on hw⟩

theorem none_bad {m : Msg} (hf : rulesF m.kind = none) : goodM m = false := by
  have h : rightM m = false := by
    unfold rulesF at hf
    unfold rightM
    repeat' split at hf
    all_goals first
      | (simp at hf; done)
      | (rw [if_neg (by omega), if_neg (by omega), if_neg (by omega), if_neg (by omega), if_neg (by omega), if_neg (by omega), if_neg (by omega), if_neg (by omega), if_neg (by omega), if_neg (by omega), if_neg (by omega)])
  unfold goodM
  rw [h]
  simp

set_option maxRecDepth 100000 in
set_option maxHeartbeats 4000000 in
theorem check_none (m : Msg) (hf : rulesF m.kind = none)
    (a : Option Addr) (n c : Nat) (w : World) (h : RecsAt w a n c m.recs) (hm : m.ok) :
    Calls Try.prog 10 #[msgV m a n c] w fun e w' => e = .returned (.int .i64 (checkM m)) ∧ Below w.heap.size w w' := by
  have hlen := h.len
  have hmax := h.max
  have hB := (MsgAt.new w m a n c)
  have hb0 := (Below.refl w.heap.size w).alloc (Nat.le_refl _) (msgObj m a n c)
  have hr0 := h.on hb0
  unfold msgObj at hB hb0 hr0
  unfold msgV
  go_enter Try.func10, Try.ntmps10
  go_upto_region 1 with fail
  generalize w.alloc (.cells #[.int .i64 m.kind, .int .u64 m.te, .int .u64 m.di, .int .u64 m.id, .int .u64 m.lsn, .int .u64 m.low, .string ⟨m.key.toArray⟩, .string ⟨m.hi.toArray⟩, .bool m.del, .bool m.found, .string ⟨m.val.toArray⟩, .slice a n c, .int .i64 m.err] 26) = w1 at *
  obtain ⟨c0, c1, c2, c3, c4, c5, c6, c7, c8, c9, c10, c11, c12⟩ := hB.cells
  have Hlong := Lib.hid (long_any m a n c w1 hr0 hm)
  unfold msgV at Hlong
  have HL := Lib.hid hlen
  clear hlen h
  go_wp2_with fail
  refine Hlong.out.mono ?_
  rintro e w2 ⟨rfl, hb2⟩
  have hB2 : MsgAt w2 w.heap.size m a n c := Blk.on hB hb2
  have hr2 := hr0.on hb2
  have hbb2 := hb0.on hb2
  clear c0 c1 c2 c3 c4 c5 c6 c7 c8 c9 c10 c11 c12 Hlong hB hr0 hb0 hb2
  cases hl : longM m
  · have hcc := check_is m hl
    have HC := Lib.hid hcc
    have HF := Lib.hid hf
    have hkw : (Lit.int .i64 m.kind).wf = true := by
      have := hm.kind
      exact WalkArith.wf_i64 (by omega)
    have HZ := Lib.hid (show (checkM m : Int) = 2 by rw [hcc, none_bad hf]; rfl)
    clear hcc hl hf
    go_upto_region 3 with fail
    go_cut [3, 4] (fun s3 s4 wx => ∃ X, s3 = .pointer (some ⟨X, 0, none⟩) ∧ s4 = .bool false ∧ Below w2.heap.size w2 wx)
    case first =>
      obtain ⟨c0, c1, c2, c3, c4, c5, c6, c7, c8, c9, c10, c11, c12⟩ := hB2.cells
      have hlt : w.heap.size < w2.heap.size := hB2.lt
      have hrefl := Below.refl w2.heap.size w2
      have hdrew : Below w2.heap.size w2 w2.drew := below_drew hrefl
      clear c1 c2 c3 c4 c5 c6 c7 c8 c9 c10 c11 c12
      have hPX : ¬ (w.heap.size = w2.heap.size) := by omega
      have hPX2 : ¬ (w2.heap.size = w.heap.size) := by omega
      have hdrew2 : Below w2.heap.size w2 (w2.alloc (.cells #[.nilFunc, .nilFunc] 54)).drew := below_drew ((Below.refl _ _).alloc (Nat.le_refl _) _)
      have hXb : Blk (w2.alloc (.cells #[.nilFunc, .nilFunc] 54)).drew w2.heap.size [.nilFunc, .nilFunc] 54 := (Blk.new w2 [.nilFunc, .nilFunc] _).drew
      go_region_held3 (fun w' => w'.cell? ⟨w.heap.size, 0, none⟩ = some (.int .i64 m.kind)) (go_keep)
        (first
          | (go_at_call 28; (with_reducible refine (keepN2 (b := w.heap.size) HF.out hkw w2 ?_ hdrew hlt).mono ?_); assumption; rintro e w' ⟨q, rfl, hlk, hlk2, k0, k1⟩)
          | (go_at_call 28; (with_reducible refine (keepNX (b := w.heap.size) HF.out hkw w2 ?_ hdrew2 hlt w2.heap.size hXb).mono ?_); assumption; rintro e w' ⟨q, rfl, hlk, k0, k1, y0, y1, z0, z1, hXB⟩))
      all_goals
        go_wp2_with fail
        go_meet
        first
          | exact ⟨w'.heap.size, rfl, rfl, k1.alloc k1.size _⟩
          | exact ⟨w2.heap.size, rfl, rfl, (k1.setCell (Nat.le_refl _) _).setCell (Nat.le_refl _) _⟩
    case rest =>
      obtain ⟨X, rfl, rfl, hb3⟩ := hcut
      have hbb3 := hbb2.on hb3
      go_wp2_with fail
      go_ret
      rw [HZ.out]
      exact ⟨rfl, hbb3⟩
  · have HC := Lib.hid (show (checkM m : Int) = 3 by unfold checkM; rw [hl]; rfl)
    clear hl
    go_wp2_with fail
    go_ret
    rw [HC.out]
    exact ⟨rfl, hbb2⟩

theorem check_any (m : Msg) (a : Option Addr) (n c : Nat) (w : World) (h : RecsAt w a n c m.recs) (hm : m.ok) :
    Calls Try.prog 10 #[msgV m a n c] w fun e w' => e = .returned (.int .i64 (checkM m)) ∧ Below w.heap.size w w' := by
  by_cases h1 : m.kind = 1
  · exact check_core m 83 84 (by rw [h1]; rfl) (by decide) (fun args w => by kernel_rfl) (fun args w => by kernel_rfl) (fun w' a n c hr => right_none m (by omega) a n c w') (fun q b w' a n c hq hB hl hx => wipe_none q (by omega) b w' a n c hB hl hx) a n c w h hm
  by_cases h2 : m.kind = 2
  · exact check_core m 50 52 (by rw [h2]; rfl) (by decide) (fun args w => by kernel_rfl) (fun args w => by kernel_rfl) (fun w' a n c hr => right_2 m h2 hm a n c w' hr) (fun q b w' a n c hq hB hl hx => wipe_2 q (hq.trans h2) b w' a n c hB hl hx) a n c w h hm
  by_cases h3 : m.kind = 3
  · exact check_core m 53 54 (by rw [h3]; rfl) (by decide) (fun args w => by kernel_rfl) (fun args w => by kernel_rfl) (fun w' a n c hr => right_3 m h3 hm a n c w' hr) (fun q b w' a n c hq hB hl hx => wipe_3 q (hq.trans h3) b w' a n c hB hl hx) a n c w h hm
  by_cases h4 : m.kind = 4
  · exact check_core m 55 56 (by rw [h4]; rfl) (by decide) (fun args w => by kernel_rfl) (fun args w => by kernel_rfl) (fun w' a n c hr => right_4 m h4 hm a n c w' hr) (fun q b w' a n c hq hB hl hx => wipe_4 q (hq.trans h4) b w' a n c hB hl hx) a n c w h hm
  by_cases h5 : m.kind = 5
  · exact check_core m 57 58 (by rw [h5]; rfl) (by decide) (fun args w => by kernel_rfl) (fun args w => by kernel_rfl) (fun w' a n c hr => right_5 m h5 hm a n c w' hr) (fun q b w' a n c hq hB hl hx => wipe_5 q (hq.trans h5) b w' a n c hB hl hx) a n c w h hm
  by_cases h6 : m.kind = 6
  · exact check_core m 59 60 (by rw [h6]; rfl) (by decide) (fun args w => by kernel_rfl) (fun args w => by kernel_rfl) (fun w' a n c hr => right_6 m h6 hm a n c w' hr) (fun q b w' a n c hq hB hl hx => wipe_6 q (hq.trans h6) b w' a n c hB hl hx) a n c w h hm
  by_cases h7 : m.kind = 7
  · exact check_core m 83 84 (by rw [h7]; rfl) (by decide) (fun args w => by kernel_rfl) (fun args w => by kernel_rfl) (fun w' a n c hr => right_none m (by omega) a n c w') (fun q b w' a n c hq hB hl hx => wipe_none q (by omega) b w' a n c hB hl hx) a n c w h hm
  by_cases h8 : m.kind = 8
  · exact check_core m 61 62 (by rw [h8]; rfl) (by decide) (fun args w => by kernel_rfl) (fun args w => by kernel_rfl) (fun w' a n c hr => right_8 m h8 hm a n c w' hr) (fun q b w' a n c hq hB hl hx => wipe_8 q (hq.trans h8) b w' a n c hB hl hx) a n c w h hm
  by_cases h9 : m.kind = 9
  · exact check_core m 63 64 (by rw [h9]; rfl) (by decide) (fun args w => by kernel_rfl) (fun args w => by kernel_rfl) (fun w' a n c hr => right_9 m h9 hm a n c w' hr) (fun q b w' a n c hq hB hl hx => wipe_9 q (hq.trans h9) b w' a n c hB hl hx) a n c w h hm
  by_cases h10 : m.kind = 10
  · exact check_core m 65 67 (by rw [h10]; rfl) (by decide) (fun args w => by kernel_rfl) (fun args w => by kernel_rfl) (fun w' a n c hr => right_10 m h10 hm a n c w' hr) (fun q b w' a n c hq hB hl hx => wipe_10 q (hq.trans h10) b w' a n c hB hl hx) a n c w h hm
  by_cases h11 : m.kind = 11
  · exact check_core m 68 69 (by rw [h11]; rfl) (by decide) (fun args w => by kernel_rfl) (fun args w => by kernel_rfl) (fun w' a n c hr => right_11 m h11 hm a n c w' hr) (fun q b w' a n c hq hB hl hx => wipe_11 q (hq.trans h11) b w' a n c hB hl hx) a n c w h hm
  exact check_none m (by unfold rulesF; rw [if_neg h11, if_neg h10, if_neg h9, if_neg h8, if_neg h7, if_neg h6, if_neg h5, if_neg h4, if_neg h3, if_neg h2, if_neg h1]) a n c w h hm
end Go.Proofs.Ytnijijcbdajodaa