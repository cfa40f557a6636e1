/-
  The walks of which, over each of its three questions. No condition.
-/
import Derived.Test.YtmicpjdlldjapaaSpMem
import Derived.RangeFuncBox
namespace Go.Proofs.Ytmicpjdlldjapaa
set_option linter.unusedVariables false
set_option linter.unusedSimpArgs false
open Go.RowKit

def iv (i : Nat) : Value := .int .i64 i
/-- What is handed back: the numbers of which something is so, in a slice of its own. -/
def WhichEnds (k : Nat) (P : Nat → Bool) (w : World) (e : Ending) (w' : World) : Prop :=
  ∃ v, e = .returned v ∧ w'.ownsRow w.heap.size 3 1 v ((List.range k).filter P).length (((List.range k).filter P).map iv) ∧ Below w.heap.size w w'
theorem info_int : (Try.prog.info? 3).map (fun i => (i.zero, i.size, i.bytes)) = some (some (.int .i64 0), 1, 8) := by kernel_rfl
theorem info_parts {t : TypeId} {z : Value} {s b : Nat} (h : (Try.prog.info? t).map (fun i => (i.zero, i.size, i.bytes)) = some (some z, s, b)) : ∃ i, Try.prog.info? t = some i ∧ i.zero = some z ∧ i.size = s ∧ i.bytes = b := by
  cases hi : Try.prog.info? t with
  | none => rw [hi] at h; cases h
  | some i =>
    rw [hi] at h
    simp only [Option.map_some, Option.some.injEq, Prod.mk.injEq] at h
    exact ⟨i, rfl, h.1, h.2.1, h.2.2⟩
/-- 'append(l, x)' of one number. -/
theorem append_int {w : World} {B : Nat} {v : Value} {k : Nat} {xs : List Value} (h : w.ownsRow B 3 1 v k xs) (hk : k ≤ 1000) (hB : B ≤ w.heap.size) (x : Int) (ty : TypeId) (n : Nat) (hn : n = w.heap.size) :
    ∃ v' w', (Builtin.append_ #[61, 61] ty #[v, .slice (some ⟨n, 0, none⟩) 1 1]).run Try.prog (w.alloc (.cells #[.int .i64 x] 3)) = .ok v' w' ∧
      w'.ownsRow B 3 1 v' (k + 1) (xs ++ [.int .i64 x]) ∧ Mod v.ownBlock.toList w w' := by
  subst hn
  obtain ⟨i, hi, hz0, hz1, hz2⟩ := info_parts info_int
  obtain ⟨v', w', hrun, hown, hg, _⟩ := run_append_own (P := Try.prog) (w := w.alloc (.cells #[.int .i64 x] 3)) B 61 ty 3 i _ 1 8 Try.underlying61 hi hz0 hz1 hz2 rfl (by decide) v k xs (h.alloc _)
    ⟨w.heap.size, 0, none⟩ 1 1 [.int .i64 x] rfl (fun j u hj => by
      have hp : (⟨w.heap.size, 0, none⟩ : Addr).add j = ⟨w.heap.size, j, none⟩ := by unfold Addr.add; split <;> simp_all
      rw [hp, World.cell?_alloc_new]
      simpa using hj) (by
      intro u hu
      rw [List.mem_singleton.1 hu]; rfl) (by unfold maxLen; omega) (by omega) (by simp; omega)
  exact ⟨v', w', hrun, hown, ((Mod.refl _ _).alloc _).grown hg (fun b hb => .inl (by rw [hb]; simp))⟩

set_option maxHeartbeats 1000000 in
theorem which_free (S : Sp) (b g cap : Nat) (ms : List Nat) (P : Nat → Bool) (w : World) (h : SpAt w b g cap ms S) (hsg : S.segs ≤ 64)
    (hcl : ∀ (i : Nat) (wr : World), i < S.segs → Below w.heap.size w wr → Calls Try.prog 30 #[.int .i64 i, .agg #[.map (some (nth ms i)), .int .i64 (liveN S.ls i)]] wr fun e w' => e = .returned (.bool (P i)) ∧ Below wr.heap.size wr w') :
    Calls Try.prog 29 #[.slice (some ⟨g, 0, none⟩) S.segs cap, .func (.func 30) #[] #[]] w (WhichEnds S.segs P w) := by
  have hcap := h.len.2
  have HC := Lib.hid hcl
  clear hcl
  go_enter Try.func29, Try.ntmps29
  go_wp2_with fail
  go_loopw [5, 6, 7, 10] (fun s5 _ _ s10 wr => ∃ i : Nat, i ≤ S.segs ∧ s10 = .int .i64 i ∧ wr.ownsRow w.heap.size 3 1 s5 ((List.range i).filter P).length (((List.range i).filter P).map iv) ∧ Below w.heap.size w wr) (fun _ _ _ s10 _ => S.segs - (intOf s10).toNat)
  case atStart => exact ⟨0, by omega, rfl, World.ownsRow_nil _ _ _ _, Below.refl _ _⟩
  case round =>
    obtain ⟨i, hi, rfl, hown, hbr⟩ := hrel
    by_cases hlt : i < S.segs
    · obtain ⟨c0, c1, _⟩ := (h.on hbr).seg hlt
      go_upto_region 5 with fail
      have hB : Blk (wr.alloc (.cells #[.map (some (nth ms i)), .int .i64 (liveN S.ls i)] 56)) wr.heap.size [.map (some (nth ms i)), .int .i64 (liveN S.ls i)] 56 := Blk.new _ _ _
      have hbN := (Below.refl wr.heap.size wr).alloc (Nat.le_refl _) (.cells #[.map (some (nth ms i)), .int .i64 (liveN S.ls i)] 56)
      generalize wr.alloc (.cells #[.map (some (nth ms i)), .int .i64 (liveN S.ls i)] 56) = w1 at *
      have hbr1 := hbr.on hbN
      have hown1 := ownsRow_mod hown (Mod.of_below (S := []) hbN) (by simp)
      have d0 : w1.cell? ⟨wr.heap.size, 0, none⟩ = some (.map (some (nth ms i))) := by rw [hB.cell]; rfl
      have d1 : w1.cell? ⟨wr.heap.size, 1, none⟩ = some (.int .i64 (liveN S.ls i)) := by rw [hB.cell]; rfl
      clear c0 c1 hB hbN hown
      go_wp2_with fail
      refine (HC.out i w1 hlt hbr1).mono ?_
      rintro e w2 ⟨rfl, hb2⟩
      have hbr2 := hbr1.on hb2
      have hown2 := ownsRow_mod hown1 (Mod.of_below (S := []) hb2) (by simp)
      clear d0 d1 hown1 hbr1 hbr hb2
      cases hp : P i
      · have HN := Lib.hid (show (List.range (i + 1)).filter P = (List.range i).filter P by rw [List.range_succ, List.filter_append]; simp [hp])
        clear hp
        go_wp2_with fail
        go_roundw
        case rel => exact ⟨i + 1, by omega, by go_num, by rw [HN.out]; exact hown2, hbr2⟩
        case measure => simp [intOf]; omega
      · have HN := Lib.hid (show (List.range (i + 1)).filter P = (List.range i).filter P ++ [i] by rw [List.range_succ, List.filter_append]; simp [hp])
        clear hp
        have hlen : ((List.range i).filter P).length ≤ 64 := Nat.le_trans (List.length_filter_le _ _) (by simp; omega)
        obtain ⟨v', w3, hrun, hown3, hm3⟩ := append_int hown2 (by omega) hbr2.size i 61 w2.heap.size rfl
        have hbr3 := Mod.fresh hbr2 hm3 (fun y hy => by
          cases hb : u5.ownBlock with
          | none => rw [hb] at hy; simp at hy
          | some z =>
            rw [hb] at hy
            simp only [Option.toList_some, List.mem_singleton] at hy
            subst hy
            exact (hown2.lt _ hb).1)
        clear hlen
        go_wp2_with (at_builtin; (with_reducible refine wpList_append_run rfl _ _ _ rfl _ _ _ _ ?_ ?_ hrun ?_); rfl; rfl)
        clear hrun hown2 hbr2 hm3
        go_roundw
        case rel => exact ⟨i + 1, by omega, by go_num, by rw [HN.out]; simpa [iv] using hown3, hbr3⟩
        case measure => simp [intOf]; omega
    · obtain rfl : i = S.segs := by omega
      go_wp2_with fail
      go_ret
      exact ⟨u5, rfl, hown, hbr⟩

set_option maxHeartbeats 1000000 in
theorem which_closed (S : Sp) (b g cap : Nat) (ms : List Nat) (P : Nat → Bool) (CB : Nat) (w : World) (h : SpAt w b g cap ms S) (hsg : S.segs ≤ 64)
    (hcl : ∀ (i : Nat) (wr : World), i < S.segs → Below w.heap.size w wr → Calls Try.prog 31 #[.int .i64 i, .agg #[.map (some (nth ms i)), .int .i64 (liveN S.ls i)], .pointer (some ⟨CB, 0, none⟩)] wr fun e w' => e = .returned (.bool (P i)) ∧ Below wr.heap.size wr w') :
    Calls Try.prog 29 #[.slice (some ⟨g, 0, none⟩) S.segs cap, .func (.func 31) #[] #[.pointer (some ⟨CB, 0, none⟩)]] w (WhichEnds S.segs P w) := by
  have hcap := h.len.2
  have HC := Lib.hid hcl
  clear hcl
  go_enter Try.func29, Try.ntmps29
  go_wp2_with fail
  go_loopw [5, 6, 7, 10] (fun s5 _ _ s10 wr => ∃ i : Nat, i ≤ S.segs ∧ s10 = .int .i64 i ∧ wr.ownsRow w.heap.size 3 1 s5 ((List.range i).filter P).length (((List.range i).filter P).map iv) ∧ Below w.heap.size w wr) (fun _ _ _ s10 _ => S.segs - (intOf s10).toNat)
  case atStart => exact ⟨0, by omega, rfl, World.ownsRow_nil _ _ _ _, Below.refl _ _⟩
  case round =>
    obtain ⟨i, hi, rfl, hown, hbr⟩ := hrel
    by_cases hlt : i < S.segs
    · obtain ⟨c0, c1, _⟩ := (h.on hbr).seg hlt
      go_upto_region 5 with fail
      have hB : Blk (wr.alloc (.cells #[.map (some (nth ms i)), .int .i64 (liveN S.ls i)] 56)) wr.heap.size [.map (some (nth ms i)), .int .i64 (liveN S.ls i)] 56 := Blk.new _ _ _
      have hbN := (Below.refl wr.heap.size wr).alloc (Nat.le_refl _) (.cells #[.map (some (nth ms i)), .int .i64 (liveN S.ls i)] 56)
      generalize wr.alloc (.cells #[.map (some (nth ms i)), .int .i64 (liveN S.ls i)] 56) = w1 at *
      have hbr1 := hbr.on hbN
      have hown1 := ownsRow_mod hown (Mod.of_below (S := []) hbN) (by simp)
      have d0 : w1.cell? ⟨wr.heap.size, 0, none⟩ = some (.map (some (nth ms i))) := by rw [hB.cell]; rfl
      have d1 : w1.cell? ⟨wr.heap.size, 1, none⟩ = some (.int .i64 (liveN S.ls i)) := by rw [hB.cell]; rfl
      clear c0 c1 hB hbN hown
      go_wp2_with fail
      refine (HC.out i w1 hlt hbr1).mono ?_
      rintro e w2 ⟨rfl, hb2⟩
      have hbr2 := hbr1.on hb2
      have hown2 := ownsRow_mod hown1 (Mod.of_below (S := []) hb2) (by simp)
      clear d0 d1 hown1 hbr1 hbr hb2
      cases hp : P i
      · have HN := Lib.hid (show (List.range (i + 1)).filter P = (List.range i).filter P by rw [List.range_succ, List.filter_append]; simp [hp])
        clear hp
        go_wp2_with fail
        go_roundw
        case rel => exact ⟨i + 1, by omega, by go_num, by rw [HN.out]; exact hown2, hbr2⟩
        case measure => simp [intOf]; omega
      · have HN := Lib.hid (show (List.range (i + 1)).filter P = (List.range i).filter P ++ [i] by rw [List.range_succ, List.filter_append]; simp [hp])
        clear hp
        have hlen : ((List.range i).filter P).length ≤ 64 := Nat.le_trans (List.length_filter_le _ _) (by simp; omega)
        obtain ⟨v', w3, hrun, hown3, hm3⟩ := append_int hown2 (by omega) hbr2.size i 61 w2.heap.size rfl
        have hbr3 := Mod.fresh hbr2 hm3 (fun y hy => by
          cases hb : u5.ownBlock with
          | none => rw [hb] at hy; simp at hy
          | some z =>
            rw [hb] at hy
            simp only [Option.toList_some, List.mem_singleton] at hy
            subst hy
            exact (hown2.lt _ hb).1)
        clear hlen
        go_wp2_with (at_builtin; (with_reducible refine wpList_append_run rfl _ _ _ rfl _ _ _ _ ?_ ?_ hrun ?_); rfl; rfl)
        clear hrun hown2 hbr2 hm3
        go_roundw
        case rel => exact ⟨i + 1, by omega, by go_num, by rw [HN.out]; simpa [iv] using hown3, hbr3⟩
        case measure => simp [intOf]; omega
    · obtain rfl : i = S.segs := by omega
      go_wp2_with fail
      go_ret
      exact ⟨u5, rfl, hown, hbr⟩

set_option maxHeartbeats 1000000 in
theorem which_empty (S : Sp) (b g cap : Nat) (ms : List Nat) (P : Nat → Bool) (CB : Nat) (w : World) (h : SpAt w b g cap ms S) (hsg : S.segs ≤ 64)
    (hcl : ∀ (i : Nat) (wr : World), i < S.segs → Below w.heap.size w wr → Calls Try.prog 34 #[.int .i64 i, .agg #[.map (some (nth ms i)), .int .i64 (liveN S.ls i)], .pointer (some ⟨CB, 0, none⟩)] wr fun e w' => e = .returned (.bool (P i)) ∧ Below wr.heap.size wr w') :
    Calls Try.prog 29 #[.slice (some ⟨g, 0, none⟩) S.segs cap, .func (.func 34) #[] #[.pointer (some ⟨CB, 0, none⟩)]] w (WhichEnds S.segs P w) := by
  have hcap := h.len.2
  have HC := Lib.hid hcl
  clear hcl
  go_enter Try.func29, Try.ntmps29
  go_wp2_with fail
  go_loopw [5, 6, 7, 10] (fun s5 _ _ s10 wr => ∃ i : Nat, i ≤ S.segs ∧ s10 = .int .i64 i ∧ wr.ownsRow w.heap.size 3 1 s5 ((List.range i).filter P).length (((List.range i).filter P).map iv) ∧ Below w.heap.size w wr) (fun _ _ _ s10 _ => S.segs - (intOf s10).toNat)
  case atStart => exact ⟨0, by omega, rfl, World.ownsRow_nil _ _ _ _, Below.refl _ _⟩
  case round =>
    obtain ⟨i, hi, rfl, hown, hbr⟩ := hrel
    by_cases hlt : i < S.segs
    · obtain ⟨c0, c1, _⟩ := (h.on hbr).seg hlt
      go_upto_region 5 with fail
      have hB : Blk (wr.alloc (.cells #[.map (some (nth ms i)), .int .i64 (liveN S.ls i)] 56)) wr.heap.size [.map (some (nth ms i)), .int .i64 (liveN S.ls i)] 56 := Blk.new _ _ _
      have hbN := (Below.refl wr.heap.size wr).alloc (Nat.le_refl _) (.cells #[.map (some (nth ms i)), .int .i64 (liveN S.ls i)] 56)
      generalize wr.alloc (.cells #[.map (some (nth ms i)), .int .i64 (liveN S.ls i)] 56) = w1 at *
      have hbr1 := hbr.on hbN
      have hown1 := ownsRow_mod hown (Mod.of_below (S := []) hbN) (by simp)
      have d0 : w1.cell? ⟨wr.heap.size, 0, none⟩ = some (.map (some (nth ms i))) := by rw [hB.cell]; rfl
      have d1 : w1.cell? ⟨wr.heap.size, 1, none⟩ = some (.int .i64 (liveN S.ls i)) := by rw [hB.cell]; rfl
      clear c0 c1 hB hbN hown
      go_wp2_with fail
      refine (HC.out i w1 hlt hbr1).mono ?_
      rintro e w2 ⟨rfl, hb2⟩
      have hbr2 := hbr1.on hb2
      have hown2 := ownsRow_mod hown1 (Mod.of_below (S := []) hb2) (by simp)
      clear d0 d1 hown1 hbr1 hbr hb2
      cases hp : P i
      · have HN := Lib.hid (show (List.range (i + 1)).filter P = (List.range i).filter P by rw [List.range_succ, List.filter_append]; simp [hp])
        clear hp
        go_wp2_with fail
        go_roundw
        case rel => exact ⟨i + 1, by omega, by go_num, by rw [HN.out]; exact hown2, hbr2⟩
        case measure => simp [intOf]; omega
      · have HN := Lib.hid (show (List.range (i + 1)).filter P = (List.range i).filter P ++ [i] by rw [List.range_succ, List.filter_append]; simp [hp])
        clear hp
        have hlen : ((List.range i).filter P).length ≤ 64 := Nat.le_trans (List.length_filter_le _ _) (by simp; omega)
        obtain ⟨v', w3, hrun, hown3, hm3⟩ := append_int hown2 (by omega) hbr2.size i 61 w2.heap.size rfl
        have hbr3 := Mod.fresh hbr2 hm3 (fun y hy => by
          cases hb : u5.ownBlock with
          | none => rw [hb] at hy; simp at hy
          | some z =>
            rw [hb] at hy
            simp only [Option.toList_some, List.mem_singleton] at hy
            subst hy
            exact (hown2.lt _ hb).1)
        clear hlen
        go_wp2_with (at_builtin; (with_reducible refine wpList_append_run rfl _ _ _ rfl _ _ _ _ ?_ ?_ hrun ?_); rfl; rfl)
        clear hrun hown2 hbr2 hm3
        go_roundw
        case rel => exact ⟨i + 1, by omega, by go_num, by rw [HN.out]; simpa [iv] using hown3, hbr3⟩
        case measure => simp [intOf]; omega
    · obtain rfl : i = S.segs := by omega
      go_wp2_with fail
      go_ret
      exact ⟨u5, rfl, hown, hbr⟩
end Go.Proofs.Ytmicpjdlldjapaa
