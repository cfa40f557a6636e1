/-
  The law's once: each key once, the first one of each. No condition but sizes that a machine has (a million records).
-/
import Derived.Test.YtffianjbljgnaaaCutE
import Derived.Test.YtffianjbljgnaaaRight
namespace Go.Proofs.Ytffianjbljgnaaa
set_option linter.unusedVariables false
set_option linter.unusedSimpArgs false
open Go.RowKit

def knownR (l : List Rec) (k : Txt) : Bool := l.any fun q => decide (q.key = k)
def onceF (out : List Rec) (r : Rec) : List Rec := if knownR out r.key then out else out ++ [r]
def onceL (R : List Rec) : List Rec := R.foldl onceF []
theorem onceL_next (R : List Rec) (i : Nat) (r : Rec) (h : R[i]? = some r) : onceL (R.take (i + 1)) = onceF (onceL (R.take i)) r := by
  unfold onceL
  rw [List.take_add_one, h, List.foldl_append]
  rfl
theorem onceL_length (R : List Rec) : (onceL R).length ≤ R.length := by
  have h : ∀ (R acc : List Rec), (R.foldl onceF acc).length ≤ acc.length + R.length := by
    intro R
    induction R with
    | nil => intro acc; simp
    | cons r t ih =>
      intro acc
      rw [List.foldl_cons, List.length_cons]
      have h1 := ih (onceF acc r)
      have h2 : (onceF acc r).length ≤ acc.length + 1 := by unfold onceF; split <;> simp
      omega
  have := h R []
  rw [List.length_nil, Nat.zero_add] at this
  exact this
theorem onceL_mem (R : List Rec) : ∀ r ∈ onceL R, r ∈ R := by
  have h : ∀ (R acc : List Rec), ∀ r ∈ R.foldl onceF acc, r ∈ acc ∨ r ∈ R := by
    intro R
    induction R with
    | nil => intro acc r hr; exact .inl hr
    | cons q t ih =>
      intro acc r hr
      rw [List.foldl_cons] at hr
      rcases ih _ r hr with h | h
      · unfold onceF at h
        split at h
        · exact .inl h
        · rcases List.mem_append.1 h with h | h
          · exact .inl h
          · simp only [List.mem_cons, List.not_mem_nil, or_false] at h
            subst h
            exact .inr (by simp)
      · exact .inr (List.mem_cons_of_mem _ h)
  intro r hr
  rcases h R [] r hr with h | h
  · simp at h
  · exact h
theorem onceL_apart (R : List Rec) : (onceL R).Pairwise (fun a b => a.key ≠ b.key) := by
  have h : ∀ (R acc : List Rec), acc.Pairwise (fun a b => a.key ≠ b.key) → (R.foldl onceF acc).Pairwise (fun a b => a.key ≠ b.key) := by
    intro R
    induction R with
    | nil => intro acc h; exact h
    | cons q t ih =>
      intro acc h
      rw [List.foldl_cons]
      refine ih _ ?_
      unfold onceF
      split
      · exact h
      · rename_i hk
        refine List.pairwise_append.2 ⟨h, by simp, fun a ha b hb e => hk ?_⟩
        simp only [List.mem_cons, List.not_mem_nil, or_false] at hb
        subst hb
        exact List.any_eq_true.2 ⟨a, ha, by simpa using e⟩
  exact h R [] List.Pairwise.nil
theorem knownR_next (l : List Rec) (k : Nat) (x : Txt) (q : Rec) (h : l[k]? = some q) : knownR (l.take (k + 1)) x = (knownR (l.take k) x || decide (q.key = x)) := by
  unfold knownR
  rw [List.take_add_one, h, List.any_append]
  simp
theorem beq_dec (a b : Txt) : (a == b) = decide (a = b) := by
  by_cases h : a = b
  · rw [decide_eq_true h]; exact beq_iff_eq.2 h
  · rw [decide_eq_false h]; exact beq_eq_false_iff_ne.2 h
set_option maxRecDepth 100000 in
set_option maxHeartbeats 8000000 in
theorem once_any (w : World) (a : Option Addr) (n c : Nat) (R : List Rec) (h : RowsAt w a n c 4 (recsCells R)) (hR : n = R.length) (hn : n ≤ 1000000) :
    Calls Try.prog 18 #[.slice a n c] w (RecsEnd (onceL R) w) := by
  have HH := Lib.hid h
  have HN := Lib.hid hR
  clear h hR
  go_enter Try.func18, Try.ntmps18
  go_wp2_with fail
  go_loopw [3, 4, 5, 6] (fun s3 s4 _ _ wr => ∃ i : Nat, i ≤ n ∧ s4 = .int .i64 i ∧ wr.ownsRow w.heap.size 58 4 s3 (onceL (R.take i)).length (recsCells (onceL (R.take i))) ∧ Below w.heap.size w wr) (fun _ s4 _ _ _ => n - (intOf s4).toNat)
  case atStart => exact ⟨0, by omega, rfl, ⟨rfl, .inl ⟨rfl, rfl⟩⟩, Below.refl _ _⟩
  case round =>
    obtain ⟨i, hi, rfl, hown, hb⟩ := hrel
    have hsz := hb.size
    by_cases hlt : i < n
    · have hil : (i : Int) < (n : Int) := by omega
      obtain ⟨r, g, o, hr, hrl, rfl, hg, d0, d1, d2, d3⟩ := recs_row (HH.out.on hb) HN.out hlt
      have HNext := Lib.hid (onceL_next R i r hr)
      have HLe := Lib.hid (show (onceL (R.take i)).length ≤ i from Nat.le_trans (onceL_length _) (by rw [List.length_take]; omega))
      obtain ⟨rk, rl, rd, rv⟩ := r
      simp only at d0 d1 d2 d3
      clear hr hrl
      generalize onceL (R.take i) = out at *
      obtain ⟨oa, oc, rfl⟩ := own_slice hown
      have HRow := Lib.hid (own_rows hown).1
      have HOwn := Lib.hid hown
      have HB := Lib.hid hb
      obtain ⟨m, hm⟩ : ∃ m, out.length = m := ⟨_, rfl⟩
      rw [hm] at hown HRow HOwn HLe
      have HM := Lib.hid hm
      rw [hm]
      have hm6 : m ≤ 1000000 := by have := HLe.out; omega
      clear hown hb hm
      have HD := Lib.hid (show ∀ w', Below wr.heap.size wr w' → w'.cell? ⟨g, o + i * 4, none⟩ = some (.string ⟨rk.toArray⟩) ∧ w'.cell? ⟨g, o + i * 4 + 1, none⟩ = some (.int .u64 (rl : Nat)) ∧ w'.cell? ⟨g, o + i * 4 + 2, none⟩ = some (.bool rd) ∧ w'.cell? ⟨g, o + i * 4 + 3, none⟩ = some (.string ⟨rv.toArray⟩) from
        fun w' hb => ⟨(hb.cell (p := ⟨g, o + i * 4, none⟩) hg).trans d0, (hb.cell (p := ⟨g, o + i * 4 + 1, none⟩) hg).trans d1, (hb.cell (p := ⟨g, o + i * 4 + 2, none⟩) hg).trans d2, (hb.cell (p := ⟨g, o + i * 4 + 3, none⟩) hg).trans d3⟩)
      clear d0 d1 d2 d3
      go_wp2_with fail
      obtain ⟨wo, hwo⟩ : ∃ wo, wo = wr := ⟨_, rfl⟩
      subst hwo
      go_loopw [5, 6] (fun s5 s6 wk => ∃ k : Nat, k ≤ m ∧ s6 = .int .i64 k ∧ s5 = .bool (knownR (out.take k) rk) ∧ Below wo.heap.size wo wk) (fun _ s6 _ => m - (intOf s6).toNat)
      case atStart => exact ⟨0, by omega, rfl, rfl, Below.refl _ _⟩
      case round =>
        obtain ⟨k, hk, rfl, rfl, hbk⟩ := hrel
        have HBk := Lib.hid hbk
        clear hbk
        by_cases hkm : k < m
        · have hkl : (k : Int) < (m : Int) := by omega
          obtain ⟨q, g2, o2, hq, hql, rfl, hg2, e0, _, _, _⟩ := recs_row HRow.out HM.out.symm hkm
          have HKn := Lib.hid (knownR_next out k rk q hq)
          have HD2 := Lib.hid (show ∀ w', Below wr.heap.size wr w' → w'.cell? ⟨g2, o2 + k * 4, none⟩ = some (.string ⟨q.key.toArray⟩) ∧ w'.cell? ⟨g, o + i * 4, none⟩ = some (.string ⟨rk.toArray⟩) from
            fun w' hb => by
              have hb2 := HBk.out.trans (hb.mono HBk.out.size)
              exact ⟨(hb2.cell (p := ⟨g2, o2 + k * 4, none⟩) hg2).trans e0, (HD.out w' hb2).1⟩)
          clear e0 hq hql
          cases hkn : knownR (out.take k) rk with
          | true =>
            have hkx := HKn.out
            rw [hkn, Bool.true_or] at hkx
            have HKx := Lib.hid hkx
            clear hkn hkx
            go_upto_region 9 with fail
            refine wp_region_settle (Below wr.heap.size wr) (by kernel_rfl) (by kernel_rfl) (by kernel_rfl) (below_drew (Below.refl _ _)) ?_
            repeat (first
              | (refine settled_not ?_ ?_
                 · rfl
                 simp only [Act.put, List.setIfInBounds_toArray, List.set_cons_zero, List.set_cons_succ])
              | (refine settled_val (v := ?_) ?_ (fun w' hS => ?_) ?_
                 rotate_left
                 · rfl
                 · obtain ⟨k0, k1⟩ := HD2.out w' hS
                   go_simp
                   with_reducible rfl
                 simp only [Act.put, List.setIfInBounds_toArray, List.set_cons_zero, List.set_cons_succ]))
            refine settled_nil (fun w2 hS => ?_)
            have HB2 := Lib.hid (HBk.out.trans (hS.mono HBk.out.size))
            clear hS
            go_wp2_with fail
            go_roundw
            case rel => exact ⟨k + 1, by omega, by go_num, by rw [HKx.out], HB2.out⟩
            case measure => simp [intOf]; omega
          | false =>
            have hkx := HKn.out
            rw [hkn, Bool.false_or, ← bytes_beq] at hkx
            have HKx := Lib.hid hkx
            clear hkn hkx
            go_upto_region 9 with fail
            refine wp_region_settle (Below wr.heap.size wr) (by kernel_rfl) (by kernel_rfl) (by kernel_rfl) (below_drew (Below.refl _ _)) ?_
            repeat (first
              | (refine settled_not ?_ ?_
                 · rfl
                 simp only [Act.put, List.setIfInBounds_toArray, List.set_cons_zero, List.set_cons_succ])
              | (refine settled_val (v := ?_) ?_ (fun w' hS => ?_) ?_
                 rotate_left
                 · rfl
                 · obtain ⟨k0, k1⟩ := HD2.out w' hS
                   go_simp
                   with_reducible rfl
                 simp only [Act.put, List.setIfInBounds_toArray, List.set_cons_zero, List.set_cons_succ]))
            refine settled_nil (fun w2 hS => ?_)
            have HB2 := Lib.hid (HBk.out.trans (hS.mono HBk.out.size))
            clear hS
            go_wp2_with fail
            go_roundw
            case rel => exact ⟨k + 1, by omega, by go_num, by rw [HKx.out, bytes_beq, beq_dec], HB2.out⟩
            case measure => simp [intOf]; omega
        · have hke : ¬ (k : Int) < (m : Int) := by omega
          have hkk : out.take k = out := List.take_of_length_le (by have := HM.out; omega)
          rw [hkk]
          have HB2 := Lib.hid (HB.out.trans (HBk.out.mono HB.out.size))
          have HOwn2 := Lib.hid (ownsRow_mod (S := []) HOwn.out (Mod.of_below HBk.out) (by simp))
          obtain ⟨d0, d1, d2, d3⟩ := HD.out wr HBk.out
          clear hkk
          cases hkn : knownR out rk with
          | true =>
            have HNx := Lib.hid (show onceL (R.take (i + 1)) = out by rw [HNext.out]; unfold onceF; rw [if_pos (by exact hkn)])
            clear hkn
            go_wp2_with fail
            go_roundw
            case rel => exact ⟨i + 1, by omega, by go_num, by rw [HNx.out, HM.out]; exact HOwn2.out, HB2.out⟩
            case measure => simp [intOf]; omega
          | false =>
            have HNx := Lib.hid (show onceL (R.take (i + 1)) = out ++ [⟨rk, rl, rd, rv⟩] by rw [HNext.out]; unfold onceF; rw [if_neg (by rw [hkn]; decide)])
            clear hkn
            have hbn := (Below.refl wr.heap.size wr).alloc (Nat.le_refl _) (.cells #[.string ⟨rk.toArray⟩, .int .u64 (rl : Nat), .bool rd, .string ⟨rv.toArray⟩] 58)
            have hN : Blk (wr.alloc (.cells #[.string ⟨rk.toArray⟩, .int .u64 (rl : Nat), .bool rd, .string ⟨rv.toArray⟩] 58)) wr.heap.size (recsCells [⟨rk, rl, rd, rv⟩]) 58 := Blk.new wr [.string ⟨rk.toArray⟩, .int .u64 (rl : Nat), .bool rd, .string ⟨rv.toArray⟩] 58
            obtain ⟨v', w', hrun, hown', hmod, hblk⟩ := own_append 38 58 38 _ 4 48 Try.underlying38 info_rec rfl (by decide) (by decide) (HOwn2.out.alloc (.cells #[.string ⟨rk.toArray⟩, .int .u64 (rl : Nat), .bool rd, .string ⟨rv.toArray⟩] 58))
              (by have := HLe.out; omega) (by have := HB2.out.size; simp; omega) ⟨wr.heap.size, 0, none⟩ 1 1 (recsCells [⟨rk, rl, rd, rv⟩]) (by omega) (by omega) rfl
              (fun k u hk => by rw [addr_add', Nat.zero_add, hN.cell]; exact hk) (recs_one _)
            rw [← recs_append, ← HNx.out] at hown'
            have HOwn' := Lib.hid hown'
            have HM' := Lib.hid (show Below w.heap.size w w' from by
              refine HB2.out.trans (((Mod.of_below hbn).trans hmod).below (fun x hx => ?_) HB2.out.size)
              exact (HOwn2.out.lt x (by simpa using hx)).1)
            have HLen := Lib.hid (show (onceL (R.take (i + 1))).length = m + 1 by rw [HNx.out, List.length_append, HM.out]; rfl)
            clear hown' hmod hblk hbn hN
            go_wp2_with (at_builtin; (with_reducible refine wpList_append_run rfl _ _ _ rfl _ _ _ _ ?_ ?_ hrun ?_); rfl; rfl)
            go_roundw
            case rel => exact ⟨i + 1, by omega, by go_num, by rw [HLen.out]; exact HOwn'.out, HM'.out⟩
            case measure => simp [intOf]; omega
    · have HE := Lib.hid (show RecsEnd (onceL R) w (.returned u3) wr from by
        have hin : i = R.length := by have := HN.out; omega
        rw [hin, List.take_of_length_le (Nat.le_refl _)] at hown
        obtain ⟨a, c, rfl⟩ := own_slice hown
        obtain ⟨h1, h2⟩ := own_rows hown
        have h3 := hown.lt
        exact ⟨a, c, rfl, h1, (fun g o e => h3 g (by rw [e]; rfl)), hb⟩)
      have hge : ¬ (i : Int) < (n : Int) := by omega
      clear hown hb
      go_wp2_with fail
      go_ret
      exact HE.out
end Go.Proofs.Ytffianjbljgnaaa
