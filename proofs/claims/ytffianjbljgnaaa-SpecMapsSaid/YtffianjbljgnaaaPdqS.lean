/-
  siftDownOrdered and heapSortOrdered at numbers without a sign: as the plain ones. Condition: the row's length is one that a machine has. (Printed by gen_pdqs.py.)
-/
import Derived.Test.YtffianjbljgnaaaPdqA
import Derived.Test.YtffianjbljgnaaaSettleF
import Derived.Deep.DeepCutAuto
import Derived.Deep.CutBlock
namespace Go.Proofs.Ytffianjbljgnaaa
set_option linter.unusedVariables false
set_option linter.unusedSimpArgs false
open Go.RowKit
/-- One round of a sift, with the greater child named. -/
theorem sift_eq (hi first root : Nat) (d : Array Nat) (ch : Nat) (hc : ¬ 2 * root + 1 ≥ hi) (hch : ch = if (decide (2 * root + 1 + 1 < hi) && below64 d[first + (2 * root + 1)]! d[first + (2 * root + 1) + 1]!) = true then 2 * root + 2 else 2 * root + 1) :
    Sort.siftDown below64 hi first root d = if below64 d[first + root]! d[first + ch]! = true then Sort.siftDown below64 hi first ch (Sort.swp d (first + root) (first + ch)) else d := by
  rw [Sort.siftDown, dif_neg hc]
  by_cases h1 : (decide (2 * root + 1 + 1 < hi) && below64 d[first + (2 * root + 1)]! d[first + (2 * root + 1) + 1]!) = true
  · rw [if_pos h1] at hch
    subst hch
    have h2 : 2 * root + 2 < hi := by simp at h1; omega
    rw [if_pos h1, dif_pos h2]
    cases below64 d[first + root]! d[first + (2 * root + 2)]! <;> simp
  · rw [if_neg h1] at hch
    subst hch
    rw [if_neg h1]
    cases below64 d[first + root]! d[first + (2 * root + 1)]! <;> simp
theorem sift_size (hi first : Nat) : ∀ (m root : Nat) (d : Array Nat), hi - root ≤ m → (Sort.siftDown below64 hi first root d).size = d.size := by
  intro m
  induction m with
  | zero =>
    intro root d h
    rw [Sort.siftDown, dif_pos (by omega)]
  | succ m ih =>
    intro root d h
    by_cases hc : 2 * root + 1 ≥ hi
    · rw [Sort.siftDown, dif_pos hc]
    · obtain ⟨ch, hch⟩ : ∃ ch, ch = if (decide (2 * root + 1 + 1 < hi) && below64 d[first + (2 * root + 1)]! d[first + (2 * root + 1) + 1]!) = true then 2 * root + 2 else 2 * root + 1 := ⟨_, rfl⟩
      have hb : 2 * root + 1 ≤ ch := by rw [hch]; split <;> omega
      rw [sift_eq hi first root d ch hc hch]
      split
      · rw [ih _ _ (by omega), Sort.size_swp]
      · rfl
set_option maxRecDepth 100000 in
set_option maxHeartbeats 8000000 in
theorem sift_any (g : Nat) (d : Array Nat) (rest : List Value) (cap lo hi first : Nat) (hlo : lo ≤ 1000000) (hb : first + hi ≤ d.size) (hcap : d.size ≤ cap) (hsz : d.size ≤ 1000000) (w : World) (h : ArrAt w g d rest) :
    Calls Try.prog 100 #[.slice (some ⟨g, 0, none⟩) d.size cap, .int .i64 lo, .int .i64 hi, .int .i64 first] w (ArrEnd g (Sort.siftDown below64 hi first lo d) rest w) := by
  obtain ⟨n, hn⟩ : ∃ n, d.size = n := ⟨_, rfl⟩
  rw [hn]
  have HA := Lib.hid h
  clear h
  go_enter Try.func100, Try.ntmps100
  go_wp2_with fail
  go_loopw [8] (fun s8 wr => ∃ (root : Nat) (dd : Array Nat), s8 = .int .i64 root ∧ root ≤ 1000000 ∧ dd.size = n ∧ Sort.siftDown below64 hi first root dd = Sort.siftDown below64 hi first lo d ∧ ArrAt wr g dd rest ∧ Mod [g] w wr) (fun s8 _ => hi - (intOf s8).toNat)
  case atStart => exact ⟨lo, d, rfl, hlo, hn, rfl, HA.out, Mod.refl _ _⟩
  case round =>
    obtain ⟨root, dd, rfl, hrl, hz, heq, hA, hm⟩ := hrel
    have HAr := Lib.hid hA
    have HMr := Lib.hid hm
    have HEq := Lib.hid heq
    clear hA hm heq
    obtain ⟨c, hc⟩ : ∃ c, 2 * root + 1 = c := ⟨_, rfl⟩
    have hci : 2 * (root : Int) + 1 = (c : Int) := by omega
    by_cases hge : c ≥ hi
    · have hgei : (hi : Int) ≤ (c : Int) := by omega
      have HE := Lib.hid (show ArrEnd g (Sort.siftDown below64 hi first lo d) rest w (.returned (.tuple #[])) wr from ⟨rfl, by
        have := HEq.out
        rw [Sort.siftDown, dif_pos (by omega)] at this
        rw [← this]; exact HAr.out, HMr.out⟩)
      go_wp2_with fail
      go_end0
      exact HE.out
    · have hgei : ¬ (hi : Int) ≤ (c : Int) := by omega
      obtain ⟨fc, hfc⟩ : ∃ x, first + c = x := ⟨_, rfl⟩
      obtain ⟨fr, hfr⟩ : ∃ x, first + root = x := ⟨_, rfl⟩
      have hfci : IntKind.i64.wrap ((first : Int) + (c : Int)) = (fc : Int) := by rw [show (first : Int) + (c : Int) = (fc : Int) by omega]; exact IntWalk.i64_in _ (by omega)
      have hfri : IntKind.i64.wrap ((first : Int) + (root : Int)) = (fr : Int) := by rw [show (first : Int) + (root : Int) = (fr : Int) by omega]; exact IntWalk.i64_in _ (by omega)
      have hfcn : (fc : Int) < (n : Int) := by omega
      have hfrn : (fr : Int) < (n : Int) := by omega
      obtain ⟨B, hB⟩ : ∃ B, (decide (c + 1 < hi) && below64 dd[fc]! dd[fc + 1]!) = B := ⟨_, rfl⟩
      have HB := Lib.hid hB
      clear hB
      go_upto_region 3 with fail
      go_cut [36] (fun s36 wx => s36 = .bool B ∧ Below wr.heap.size wr wx)
      case first =>
        obtain ⟨c1, hc1⟩ : ∃ x, c + 1 = x := ⟨_, rfl⟩
        have hc1i : IntKind.i64.wrap ((c : Int) + 1) = (c1 : Int) := by rw [show (c : Int) + 1 = (c1 : Int) by omega]; exact IntWalk.i64_in _ (by omega)
        by_cases h1 : c + 1 < hi
        · have h1i : (c1 : Int) < (hi : Int) := by omega
          obtain ⟨fd, hfd⟩ : ∃ x, fc + 1 = x := ⟨_, rfl⟩
          have hfdi : IntKind.i64.wrap ((fc : Int) + 1) = (fd : Int) := by rw [show (fc : Int) + 1 = (fd : Int) by omega]; exact IntWalk.i64_in _ (by omega)
          have hfdn : (fd : Int) < (n : Int) := by omega
          obtain ⟨v1, hv1⟩ : ∃ x, dd[fc]! = x := ⟨_, rfl⟩
          obtain ⟨v2, hv2⟩ : ∃ x, dd[fd]! = x := ⟨_, rfl⟩
          have HF := Lib.hid (show ∀ w', Below wr.heap.size wr w' → (w'.cell? ⟨g, fc, none⟩ = some (.int .u64 (v1 : Nat)) ∧ w'.cell? ⟨g, fd, none⟩ = some (.int .u64 (v2 : Nat))) from fun w' hb => ⟨by rw [← hv1]; exact (HAr.out.on hb).get (by omega), by rw [← hv2]; exact (HAr.out.on hb).get (by omega)⟩)
          cases hlss : below64 v1 v2 with
          | true =>
            have HL := Lib.hid hlss
            have HV := Lib.hid (show B = true by rw [← HB.out, hfd, hv1, hv2, hlss]; simp [h1])
            clear hlss hv1 hv2
            refine wp_region_settleF (Below wr.heap.size wr) (by kernel_rfl) (by kernel_rfl) (by kernel_rfl) (below_drew (Below.refl _ _)) ?_
            repeat (first
              | (refine settled_not ?_ ?_
                 · rfl
                 simp only [Act.put, List.setIfInBounds_toArray, List.set_cons_zero, List.set_cons_succ])
              | (refine settled_val (v := ?_) ?_ (fun w' hS => ?_) ?_
                 rotate_left
                 · rfl
                 · obtain ⟨k0, k1⟩ := HF.out w' hS
                   go_simp
                   with_reducible rfl
                 simp only [Act.put, List.setIfInBounds_toArray, List.set_cons_zero, List.set_cons_succ])
              | (refine settled_call (f := 84) (v := .bool true) ?_ (fun w' hS => ?_) (fun w' hS => ((less_any v1 v2 w').mono fun e w'' ⟨h1, h2⟩ => ⟨by rw [h1, HL.out], h2 ▸ hS⟩)) ?_
                 · rfl
                 · go_simp
                 simp only [Act.put, List.setIfInBounds_toArray, List.set_cons_zero, List.set_cons_succ]))
            refine settled_nil (fun w2 hS => ?_)
            have HS := Lib.hid hS
            clear hS HF
            go_wp2_with fail
            go_meet
            exact ⟨by rw [HV.out], HS.out⟩
          | false =>
            have HL := Lib.hid hlss
            have HV := Lib.hid (show B = false by rw [← HB.out, hfd, hv1, hv2, hlss]; simp [h1])
            clear hlss hv1 hv2
            refine wp_region_settleF (Below wr.heap.size wr) (by kernel_rfl) (by kernel_rfl) (by kernel_rfl) (below_drew (Below.refl _ _)) ?_
            repeat (first
              | (refine settled_not ?_ ?_
                 · rfl
                 simp only [Act.put, List.setIfInBounds_toArray, List.set_cons_zero, List.set_cons_succ])
              | (refine settled_val (v := ?_) ?_ (fun w' hS => ?_) ?_
                 rotate_left
                 · rfl
                 · obtain ⟨k0, k1⟩ := HF.out w' hS
                   go_simp
                   with_reducible rfl
                 simp only [Act.put, List.setIfInBounds_toArray, List.set_cons_zero, List.set_cons_succ])
              | (refine settled_call (f := 84) (v := .bool false) ?_ (fun w' hS => ?_) (fun w' hS => ((less_any v1 v2 w').mono fun e w'' ⟨h1, h2⟩ => ⟨by rw [h1, HL.out], h2 ▸ hS⟩)) ?_
                 · rfl
                 · go_simp
                 simp only [Act.put, List.setIfInBounds_toArray, List.set_cons_zero, List.set_cons_succ]))
            refine settled_nil (fun w2 hS => ?_)
            have HS := Lib.hid hS
            clear hS HF
            go_wp2_with fail
            go_meet
            exact ⟨by rw [HV.out], HS.out⟩
        · have h1i : ¬ (c1 : Int) < (hi : Int) := by omega
          have HV := Lib.hid (show B = false by rw [← HB.out]; simp [h1])
          refine wp_region_settleF (Below wr.heap.size wr) (by kernel_rfl) (by kernel_rfl) (by kernel_rfl) (below_drew (Below.refl _ _)) ?_
          repeat (first
            | (refine settled_not ?_ ?_
               · rfl
               simp only [Act.put, List.setIfInBounds_toArray, List.set_cons_zero, List.set_cons_succ])
            | (refine settled_val (v := ?_) ?_ (fun w' hS => ?_) ?_
               rotate_left
               · rfl
               · skip
                 go_simp
                 with_reducible rfl
               simp only [Act.put, List.setIfInBounds_toArray, List.set_cons_zero, List.set_cons_succ]))
          refine settled_nil (fun w2 hS => ?_)
          have HS := Lib.hid hS
          clear hS
          go_wp2_with fail
          go_meet
          exact ⟨by rw [HV.out], HS.out⟩
      rename World => w1
      obtain ⟨rfl, hb1⟩ := hcut
      have HA1 := Lib.hid (HAr.out.on hb1)
      have HM1 := Lib.hid (HMr.out.thenBelow hb1)
      clear hb1
      obtain ⟨ch, hch⟩ : ∃ x, (if B = true then c + 1 else c) = x := ⟨_, rfl⟩
      have hchb : c ≤ ch ∧ ch ≤ c + 1 ∧ ch < hi := by
        rw [← hch]
        split
        · rename_i hBt
          have := HB.out
          rw [hBt] at this
          simp at this
          omega
        · omega
      have HCh := Lib.hid hch
      clear hch
      go_upto_if 36 with fail
      go_cut [9] (fun s9 wx => s9 = .int .i64 (ch : Nat) ∧ w1 = wx)
      case first =>
        have hch := HCh.out
        cases B with
        | true =>
          have hci2 : (c : Int) + 1 = (ch : Int) := by rw [← hch]; simp
          clear hch
          go_wp2_with fail
          go_meet
          exact ⟨rfl, rfl⟩
        | false =>
          have hci2 : c = ch := by rw [← hch]; simp
          subst hci2
          clear hch
          go_wp2_with fail
          go_meet
          exact ⟨rfl, rfl⟩
      obtain ⟨rfl, rfl⟩ := hcut
      have HSt := Lib.hid (show Sort.siftDown below64 hi first lo d = if below64 dd[fr]! dd[first + ch]! = true then Sort.siftDown below64 hi first ch (Sort.swp dd fr (first + ch)) else dd by
        rw [← HEq.out, sift_eq hi first root dd ch (by omega) (by
          rw [← HCh.out, ← HB.out, hc, hfc]
          have : 2 * root + 2 = c + 1 := by omega
          rw [this]), hfr])
      obtain ⟨fh, hfh⟩ : ∃ x, first + ch = x := ⟨_, rfl⟩
      rw [hfh] at HSt
      have hfhi : IntKind.i64.wrap ((first : Int) + (ch : Int)) = (fh : Int) := by rw [show (first : Int) + (ch : Int) = (fh : Int) by omega]; exact IntWalk.i64_in _ (by omega)
      have hfhn : (fh : Int) < (n : Int) := by omega
      obtain ⟨v3, hv3⟩ : ∃ x, dd[fr]! = x := ⟨_, rfl⟩
      obtain ⟨v4, hv4⟩ : ∃ x, dd[fh]! = x := ⟨_, rfl⟩
      have HF := Lib.hid (show ∀ w', Below w1.heap.size w1 w' → (w'.cell? ⟨g, fr, none⟩ = some (.int .u64 (v3 : Nat)) ∧ w'.cell? ⟨g, fh, none⟩ = some (.int .u64 (v4 : Nat))) from fun w' hb => ⟨by rw [← hv3]; exact (HA1.out.on hb).get (by omega), by rw [← hv4]; exact (HA1.out.on hb).get (by omega)⟩)
      cases hlss : below64 v3 v4 with
      | false =>
        have HL := Lib.hid hlss
        have HV := Lib.hid (show Sort.siftDown below64 hi first lo d = dd by rw [HSt.out, hv3, hv4, hlss]; simp)
        clear hlss hv3 hv4
        go_upto_region 5 with fail
        refine wp_region_settleF (Below w1.heap.size w1) (by kernel_rfl) (by kernel_rfl) (by kernel_rfl) (below_drew (Below.refl _ _)) ?_
        repeat (first
          | (refine settled_not ?_ ?_
             · rfl
             simp only [Act.put, List.setIfInBounds_toArray, List.set_cons_zero, List.set_cons_succ])
          | (refine settled_val (v := ?_) ?_ (fun w' hS => ?_) ?_
             rotate_left
             · rfl
             · obtain ⟨k0, k1⟩ := HF.out w' hS
               go_simp
               with_reducible rfl
             simp only [Act.put, List.setIfInBounds_toArray, List.set_cons_zero, List.set_cons_succ])
          | (refine settled_call (f := 84) (v := .bool false) ?_ (fun w' hS => ?_) (fun w' hS => ((less_any v3 v4 w').mono fun e w'' ⟨h1, h2⟩ => ⟨by rw [h1, HL.out], h2 ▸ hS⟩)) ?_
             · rfl
             · go_simp
             simp only [Act.put, List.setIfInBounds_toArray, List.set_cons_zero, List.set_cons_succ]))
        refine settled_nil (fun w2 hS => ?_)
        have HE := Lib.hid (show ArrEnd g (Sort.siftDown below64 hi first lo d) rest w (.returned (.tuple #[])) w2 from ⟨rfl, by rw [HV.out]; exact HA1.out.on hS, HM1.out.thenBelow hS⟩)
        clear hS HF
        go_wp2_with fail
        refine bodyPost_ret (results_none rfl _ _ _) rfl ?_
        exact HE.out
      | true =>
        have HL := Lib.hid hlss
        have HV := Lib.hid (show Sort.siftDown below64 hi first ch (Sort.swp dd fr fh) = Sort.siftDown below64 hi first lo d by rw [HSt.out, hv3, hv4, hlss]; simp)
        clear hlss hv3 hv4
        go_upto_region 5 with fail
        refine wp_region_settleF (Below w1.heap.size w1) (by kernel_rfl) (by kernel_rfl) (by kernel_rfl) (below_drew (Below.refl _ _)) ?_
        repeat (first
          | (refine settled_not ?_ ?_
             · rfl
             simp only [Act.put, List.setIfInBounds_toArray, List.set_cons_zero, List.set_cons_succ])
          | (refine settled_val (v := ?_) ?_ (fun w' hS => ?_) ?_
             rotate_left
             · rfl
             · obtain ⟨k0, k1⟩ := HF.out w' hS
               go_simp
               with_reducible rfl
             simp only [Act.put, List.setIfInBounds_toArray, List.set_cons_zero, List.set_cons_succ])
          | (refine settled_call (f := 84) (v := .bool true) ?_ (fun w' hS => ?_) (fun w' hS => ((less_any v3 v4 w').mono fun e w'' ⟨h1, h2⟩ => ⟨by rw [h1, HL.out], h2 ▸ hS⟩)) ?_
             · rfl
             · go_simp
             simp only [Act.put, List.setIfInBounds_toArray, List.set_cons_zero, List.set_cons_succ]))
        refine settled_nil (fun w2 hS => ?_)
        have HA2 := Lib.hid (HA1.out.on hS)
        have HM2 := Lib.hid (HM1.out.thenBelow hS)
        clear hS HF
        go_upto_region 6 with fail
        have HG := Lib.hid (show ∀ w', Below w2.heap.size w2 w' → (w'.cell? ⟨g, fr, none⟩ = some (.int .u64 (dd[fr]! : Nat)) ∧ w'.cell? ⟨g, fh, none⟩ = some (.int .u64 (dd[fh]! : Nat))) from
          fun w' hb => ⟨(HA2.out.on hb).get (by omega), (HA2.out.on hb).get (by omega)⟩)
        obtain ⟨vI, hvI⟩ : ∃ x, dd[fr]! = x := ⟨_, rfl⟩
        obtain ⟨vJ, hvJ⟩ : ∃ x, dd[fh]! = x := ⟨_, rfl⟩
        rw [hvI, hvJ] at HG
        refine wp_region_float2 [4, 5, 6, 7] [0, 1, 2, 3, 8, 9, 10, 11, 12, 13, 14, 15, 16, 17, 18, 19] [20, 21, 22, 23] [20, 21, 22, 23] (Below w2.heap.size w2) (by kernel_rfl) (by kernel_rfl) (by kernel_rfl) (by kernel_rfl) (fun c a d v w h => by cases d <;> exact h) (below_drew (Below.refl _ _)) ?_
        have hS : Below w2.heap.size w2 { w2 with drawn := w2.drawn + 1 } := below_drew (Below.refl _ _)
        generalize ({ w2 with drawn := w2.drawn + 1 } : World) = w3 at *
        simp only [pick, List.map_cons, List.map_nil, List.getD_cons_zero, List.getD_cons_succ]
        repeat (
          refine takes_val (v := ?_) ?_ (fun w' hS => ?_) ?_
          rotate_left
          · rfl
          · go_simp
            with_reducible rfl
          simp only [Act.put, List.setIfInBounds_toArray, List.set_cons_zero, List.set_cons_succ])
        refine takes_nil ?_
        repeat (
          refine takes_val (v := ?_) ?_ (fun w' hS => ?_) ?_
          rotate_left
          · rfl
          · obtain ⟨k0, k1⟩ := HG.out w' hS
            go_simp
            with_reducible rfl
          simp only [Act.put, List.setIfInBounds_toArray, List.set_cons_zero, List.set_cons_succ])
        refine takes_nil ?_
        obtain ⟨k0, k1⟩ := HG.out w3 hS
        have hA3 := HA2.out.on hS
        have hM3 := HM2.out.thenBelow hS
        have z0 := Blk.free hA3 fr
        have hAx := hA3.set (i := fr) (by omega) vJ
        have z2 := Blk.free hAx fh
        have z3 := hAx.get (i := fh) (by simp; omega)
        have hA4 : ArrAt ((w3.setCell ⟨g, fr, none⟩ (.int .u64 (vJ : Nat))).setCell ⟨g, fh, none⟩ (.int .u64 (vI : Nat))) g (Sort.swp dd fr fh) rest := by
          have := hA3.swap (i := fr) (j := fh) (by omega) (by omega)
          rw [hvI, hvJ] at this
          exact this
        have hM4 : Mod [g] w ((w3.setCell ⟨g, fr, none⟩ (.int .u64 (vJ : Nat))).setCell ⟨g, fh, none⟩ (.int .u64 (vI : Nat))) := (hM3.setCell _ _ (.inl (by simp))).setCell _ _ (.inl (by simp))
        clear hAx hA3 hM3
        generalize hz3 : ((dd.setIfInBounds fr vJ)[fh]! : Nat) = x3 at z3
        clear hz3 hvI hvJ
        refine seqW_step (by rfl) (fun K hK => ?_)
        go_simp
        refine hK.out _ _ (.inl (by rfl)) ?_
        clear hK K
        refine seqW_step (by rfl) (fun K hK => ?_)
        go_simp
        refine hK.out _ _ (.inl (by rfl)) ?_
        clear hK K
        refine seqW_step (by rfl) (fun K hK => ?_)
        go_simp
        refine hK.out _ _ (.inl (by rfl)) ?_
        clear hK K
        refine seqW_step (by rfl) (fun K hK => ?_)
        go_simp
        refine hK.out _ _ (.inl (by rfl)) (seqW_nil ?_)
        clear hK K HG hS k0 k1 z0 z2 z3
        generalize (w3.setCell ⟨g, fr, none⟩ (.int .u64 (vJ : Nat))).setCell ⟨g, fh, none⟩ (.int .u64 (vI : Nat)) = w4 at *
        go_wp2_with fail
        go_roundw
        case rel => exact ⟨ch, Sort.swp dd fr fh, rfl, by omega, by rw [Sort.size_swp]; exact hz, HV.out, hA4, hM4⟩
        case measure => simp [intOf]; omega
set_option maxRecDepth 100000 in
set_option maxHeartbeats 8000000 in
theorem heap_any (g : Nat) (d : Array Nat) (rest : List Value) (cap a b : Nat) (hab : a ≤ b) (hb : b ≤ d.size) (hcap : d.size ≤ cap) (hsz : d.size ≤ 1000000) (w : World) (h : ArrAt w g d rest) :
    Calls Try.prog 79 #[.slice (some ⟨g, 0, none⟩) d.size cap, .int .i64 a, .int .i64 b] w (ArrEnd g (Sort.heapSort below64 d a b) rest w) := by
  obtain ⟨n, hn⟩ : ∃ n, d.size = n := ⟨_, rfl⟩
  rw [hn]
  have HA := Lib.hid h
  clear h
  obtain ⟨hi, hhi⟩ : ∃ x, b - a = x := ⟨_, rfl⟩
  have hhii : (b : Int) - (a : Int) = (hi : Int) := by omega
  obtain ⟨k0, hk0⟩ : ∃ x, (hi - 1) / 2 + 1 = x := ⟨_, rfl⟩
  have hdiv : Int.tdiv ((hi : Int) - 1) 2 = (k0 : Int) - 1 := by
    rcases Nat.eq_zero_or_pos hi with h0 | h0
    · subst h0
      have : k0 = 1 := by omega
      subst this
      rfl
    · rw [Int.tdiv_eq_ediv_of_nonneg (by omega)]; omega
  go_enter Try.func79, Try.ntmps79
  go_wp2_with fail
  go_loopw [9] (fun s9 wr => ∃ (k : Nat) (dd : Array Nat), s9 = .int .i64 ((k : Int) - 1) ∧ k ≤ k0 ∧ dd.size = n ∧ Sort.heapBuild below64 hi a k dd = Sort.heapBuild below64 hi a k0 d ∧ ArrAt wr g dd rest ∧ Mod [g] w wr) (fun s9 _ => (intOf s9 + 1).toNat)
  case atStart => exact ⟨k0, d, rfl, Nat.le_refl _, hn, rfl, HA.out, Mod.refl _ _⟩
  case round =>
    obtain ⟨k, dd, rfl, hk, hz, heq, hA, hm⟩ := hrel
    have HAr := Lib.hid hA
    have HMr := Lib.hid hm
    have HEq := Lib.hid heq
    clear hA hm heq
    cases k with
    | succ m =>
      have hmi : ((m + 1 : Nat) : Int) - 1 = (m : Int) := by omega
      rw [hmi]
      have hge : (0 : Int) ≤ (m : Int) := by omega
      have HC := Lib.hid (sift_any g dd rest cap m hi a (by omega) (by omega) (by omega) (by omega) wr HAr.out)
      rw [hz] at HC
      go_wp2_with fail
      refine HC.out.mono ?_
      rintro e w1 ⟨rfl, hA1, hm1⟩
      have HA1 := Lib.hid hA1
      have HM1 := Lib.hid (HMr.out.trans hm1)
      have HZ1 := Lib.hid (show (Sort.siftDown below64 hi a m dd).size = n from by rw [sift_size hi a _ m dd (Nat.le_refl _)]; exact hz)
      have HNx := Lib.hid (show Sort.heapBuild below64 hi a m (Sort.siftDown below64 hi a m dd) = Sort.heapBuild below64 hi a k0 d from HEq.out)
      clear hA1 hm1 HC
      go_wp2_with fail
      go_roundw
      case rel => exact ⟨m, _, rfl, by omega, HZ1.out, HNx.out, HA1.out, HM1.out⟩
      case measure => simp [intOf]
    | zero =>
      have hmi : ((0 : Nat) : Int) - 1 = -1 := by omega
      rw [hmi]
      have HD := Lib.hid (show dd = Sort.heapBuild below64 hi a k0 d from HEq.out)
      go_wp2_with fail
      generalize wr = wq at *
      go_loopw [10] (fun s10 wr => ∃ (k : Nat) (de : Array Nat), s10 = .int .i64 ((k : Int) - 1) ∧ k ≤ hi ∧ de.size = n ∧ Sort.heapPop below64 a k de = Sort.heapSort below64 d a b ∧ ArrAt wr g de rest ∧ Mod [g] w wr) (fun s10 _ => (intOf s10 + 1).toNat)
      case atStart => exact ⟨hi, dd, rfl, Nat.le_refl _, hz, by unfold Sort.heapSort; rw [hhi, hk0, HD.out], HAr.out, HMr.out⟩
      case round =>
        clear HAr HMr HEq HD
        obtain ⟨k, de, rfl, hk', hz', heq, hA, hm⟩ := hrel
        have HAr := Lib.hid hA
        have HMr := Lib.hid hm
        have HEq := Lib.hid heq
        clear hA hm heq
        cases k with
        | succ m =>
          have hmi : ((m + 1 : Nat) : Int) - 1 = (m : Int) := by omega
          rw [hmi]
          have hge : (0 : Int) ≤ (m : Int) := by omega
          obtain ⟨am, ham⟩ : ∃ x, a + m = x := ⟨_, rfl⟩
          have hami : IntKind.i64.wrap ((a : Int) + (m : Int)) = (am : Int) := by rw [show (a : Int) + (m : Int) = (am : Int) by omega]; exact IntWalk.i64_in _ (by omega)
          have hamn : (am : Int) < (n : Int) := by omega
          have han : (a : Int) < (n : Int) := by omega
          go_upto_region 10 with fail
          have HG := Lib.hid (show ∀ w', Below wr.heap.size wr w' → (w'.cell? ⟨g, a, none⟩ = some (.int .u64 (de[a]! : Nat)) ∧ w'.cell? ⟨g, am, none⟩ = some (.int .u64 (de[am]! : Nat))) from
            fun w' hb => ⟨(HAr.out.on hb).get (by omega), (HAr.out.on hb).get (by omega)⟩)
          obtain ⟨vI, hvI⟩ : ∃ x, de[a]! = x := ⟨_, rfl⟩
          obtain ⟨vJ, hvJ⟩ : ∃ x, de[am]! = x := ⟨_, rfl⟩
          rw [hvI, hvJ] at HG
          refine wp_region_float2 [2, 3, 4, 5] [0, 1, 6, 7, 8, 9, 10, 11, 12, 13, 14, 15] [16, 17, 18, 19] [16, 17, 18, 19] (Below wr.heap.size wr) (by kernel_rfl) (by kernel_rfl) (by kernel_rfl) (by kernel_rfl) (fun c a d v w h => by cases d <;> exact h) (below_drew (Below.refl _ _)) ?_
          have hS : Below wr.heap.size wr { wr with drawn := wr.drawn + 1 } := below_drew (Below.refl _ _)
          generalize ({ wr with drawn := wr.drawn + 1 } : World) = w3 at *
          simp only [pick, List.map_cons, List.map_nil, List.getD_cons_zero, List.getD_cons_succ]
          repeat (
            refine takes_val (v := ?_) ?_ (fun w' hS => ?_) ?_
            rotate_left
            · rfl
            · go_simp
              with_reducible rfl
            simp only [Act.put, List.setIfInBounds_toArray, List.set_cons_zero, List.set_cons_succ])
          refine takes_nil ?_
          repeat (
            refine takes_val (v := ?_) ?_ (fun w' hS => ?_) ?_
            rotate_left
            · rfl
            · obtain ⟨k0, k1⟩ := HG.out w' hS
              go_simp
              with_reducible rfl
            simp only [Act.put, List.setIfInBounds_toArray, List.set_cons_zero, List.set_cons_succ])
          refine takes_nil ?_
          obtain ⟨k0, k1⟩ := HG.out w3 hS
          have hA3 := HAr.out.on hS
          have hM3 := HMr.out.thenBelow hS
          have z0 := Blk.free hA3 a
          have hAx := hA3.set (i := a) (by omega) vJ
          have z2 := Blk.free hAx am
          have z3 := hAx.get (i := am) (by simp; omega)
          have hA4 : ArrAt ((w3.setCell ⟨g, a, none⟩ (.int .u64 (vJ : Nat))).setCell ⟨g, am, none⟩ (.int .u64 (vI : Nat))) g (Sort.swp de a am) rest := by
            have := hA3.swap (i := a) (j := am) (by omega) (by omega)
            rw [hvI, hvJ] at this
            exact this
          have hM4 : Mod [g] w ((w3.setCell ⟨g, a, none⟩ (.int .u64 (vJ : Nat))).setCell ⟨g, am, none⟩ (.int .u64 (vI : Nat))) := (hM3.setCell _ _ (.inl (by simp))).setCell _ _ (.inl (by simp))
          clear hAx hA3 hM3
          generalize hz3 : ((de.setIfInBounds a vJ)[am]! : Nat) = x3 at z3
          clear hz3 hvI hvJ
          refine seqW_step (by rfl) (fun K hK => ?_)
          go_simp
          refine hK.out _ _ (.inl (by rfl)) ?_
          clear hK K
          refine seqW_step (by rfl) (fun K hK => ?_)
          go_simp
          refine hK.out _ _ (.inl (by rfl)) ?_
          clear hK K
          refine seqW_step (by rfl) (fun K hK => ?_)
          go_simp
          refine hK.out _ _ (.inl (by rfl)) ?_
          clear hK K
          refine seqW_step (by rfl) (fun K hK => ?_)
          go_simp
          refine hK.out _ _ (.inl (by rfl)) (seqW_nil ?_)
          clear hK K HG hS k0 k1 z0 z2 z3
          generalize (w3.setCell ⟨g, a, none⟩ (.int .u64 (vJ : Nat))).setCell ⟨g, am, none⟩ (.int .u64 (vI : Nat)) = w4 at *
          have hz4 : (Sort.swp de a am).size = n := by rw [Sort.size_swp]; exact hz'
          have HC := Lib.hid (sift_any g (Sort.swp de a am) rest cap 0 m a (by omega) (by omega) (by omega) (by omega) w4 hA4)
          rw [hz4] at HC
          have HM4 := Lib.hid hM4
          have HNx := Lib.hid (show Sort.heapPop below64 a m (Sort.siftDown below64 m a 0 (Sort.swp de a am)) = Sort.heapSort below64 d a b by rw [← ham]; exact HEq.out)
          have HZ1 := Lib.hid (show (Sort.siftDown below64 m a 0 (Sort.swp de a am)).size = n from by rw [sift_size m a _ 0 _ (Nat.le_refl _)]; exact hz4)
          clear hA4 hM4
          go_wp2_with fail
          refine HC.out.mono ?_
          rintro e w5 ⟨rfl, hA1, hm1⟩
          have HA1 := Lib.hid hA1
          have HM1 := Lib.hid (HM4.out.trans hm1)
          clear hA1 hm1 HC
          go_wp2_with fail
          go_roundw
          case rel => exact ⟨m, _, rfl, by omega, HZ1.out, HNx.out, HA1.out, HM1.out⟩
          case measure => simp [intOf]
        | zero =>
          have hmi : ((0 : Nat) : Int) - 1 = -1 := by omega
          rw [hmi]
          have HE := Lib.hid (show ArrEnd g (Sort.heapSort below64 d a b) rest w (.returned (.tuple #[])) wr from ⟨rfl, by rw [← HEq.out]; exact HAr.out, HMr.out⟩)
          go_wp2_with fail
          go_end0
          exact HE.out
end Go.Proofs.Ytffianjbljgnaaa
