/-
  look.Bounds and look.Quiet, by look.every over their questions. Condition: at most a hundred thousand calls. (Printed by gen_lookb.py.)
-/
import Derived.Test.YtecknikehieioaaGreatLookG
namespace Go.Proofs.YtecknikehieioaaGreat
set_option linter.unusedVariables false
set_option linter.unusedSimpArgs false
open Go.RowKit Go.Maps

/-- The first question that does not hold, from place i on. -/
def firstB : Nat → List Bool → Int
  | _, [] => -1
  | i, b :: t => if b then firstB (i + 1) t else (i : Int)
theorem firstB_drop (l : List Bool) (i : Nat) (b : Bool) (h : l[i]? = some b) : firstB i (l.drop i) = if b then firstB (i + 1) (l.drop (i + 1)) else (i : Int) := by
  obtain ⟨h1, rfl⟩ := List.getElem?_eq_some_iff.1 h
  rw [List.drop_eq_getElem_cons h1]; rfl
theorem firstB_all (l : List Bool) (i : Nat) : decide (0 ≤ firstB i l) = !(l.all id) := by
  induction l generalizing i with
  | nil => rfl
  | cons b t ih =>
    unfold firstB
    rw [List.all_cons]
    cases b with
    | true => simpa using ih (i + 1)
    | false => simp
/-- The first number that is not above the one ahead of it. -/
def badU (T : List Nat) (i u : Nat) : Bool := decide (0 < i) && decide (u ≤ T.getD (i - 1) 0)
def firstU (T : List Nat) : Nat → List Nat → Int
  | _, [] => -1
  | i, u :: t => if badU T i u then (i : Int) else firstU T (i + 1) t
theorem firstU_drop (T : List Nat) (i u : Nat) (h : T[i]? = some u) : firstU T i (T.drop i) = if badU T i u then (i : Int) else firstU T (i + 1) (T.drop (i + 1)) := by
  obtain ⟨h1, rfl⟩ := List.getElem?_eq_some_iff.1 h
  rw [List.drop_eq_getElem_cons h1]; rfl
theorem firstU_asc (T : List Nat) : decide (firstU T 0 T < 0) = ascB T := by
  have : ∀ (m i : Nat), m + i = T.length → (firstU T i (T.drop i) < 0 ↔ ∀ k, (hk : k < T.length) → i ≤ k → 0 < k → T[k - 1] < T[k]) := by
    intro m
    induction m with
    | zero =>
      intro i hi
      rw [List.drop_eq_nil_of_le (by omega)]
      exact ⟨fun _ k hk h1 _ => by omega, fun _ => by show (-1 : Int) < 0; decide⟩
    | succ m ih =>
      intro i hi
      have hil : i < T.length := by omega
      rw [firstU_drop T i T[i] (List.getElem?_eq_getElem hil)]
      unfold badU
      by_cases h0 : 0 < i
      · have hg : T.getD (i - 1) 0 = T[i - 1] := by rw [List.getD_eq_getElem?_getD, List.getElem?_eq_getElem (by omega)]; rfl
        rw [hg]
        by_cases h1 : T[i] ≤ T[i - 1]
        · rw [decide_eq_true h0, decide_eq_true h1]
          simp only [Bool.and_self, if_true]
          exact ⟨fun h => by omega, fun h => by have := h i hil (Nat.le_refl _) h0; omega⟩
        · rw [decide_eq_false h1, Bool.and_false, if_neg (by decide), ih (i + 1) (by omega)]
          constructor
          · intro h k hk hik hk0
            by_cases e : k = i
            · subst e; omega
            · exact h k hk (by omega) hk0
          · intro h k hk hik hk0
            exact h k hk (by omega) hk0
      · rw [decide_eq_false h0, Bool.false_and, if_neg (by decide), ih (i + 1) (by omega)]
        constructor
        · intro h k hk hik hk0
          exact h k hk (by omega) hk0
        · intro h k hk hik hk0
          exact h k hk (by omega) hk0
  have h2 := this T.length 0 (by omega)
  unfold ascB
  rw [show T.drop 0 = T from rfl] at h2
  by_cases h : firstU T 0 T < 0
  · rw [decide_eq_true h, eq_comm, decide_eq_true_eq, List.pairwise_iff_getElem]
    have hs := h2.1 h
    intro i j hi hj hij
    have : ∀ d, ∀ j, (hj : j < T.length) → (hi' : i < T.length) → j = i + d + 1 → T[i] < T[j] := by
      intro d
      induction d with
      | zero =>
        intro j hj hi' e
        have := hs j hj (by omega) (by omega)
        have e2 : j - 1 = i := by omega
        simp only [e2] at this
        exact this
      | succ d ih =>
        intro j hj hi' e
        have h1 := ih (j - 1) (by omega) hi' (by omega)
        have h2 := hs j hj (by omega) (by omega)
        omega
    exact this (j - i - 1) j hj hi (by omega)
  · rw [decide_eq_false h, eq_comm, decide_eq_false_iff_not]
    intro hp
    refine h (h2.2 fun k hk _ hk0 => ?_)
    exact (List.pairwise_iff_getElem.1 hp) (k - 1) k (by omega) hk (by omega)
set_option maxRecDepth 100000 in
set_option maxHeartbeats 4000000 in
theorem indexQ_any (w : World) (a : Option Addr) (n c : Nat) (fs : List Value) (bs : List Bool) (hr : RowsAt w a n c 1 fs) (hl : bs.length = n) (hn : n ≤ 1000)
    (hf : ∀ (k : Nat) (v : Value) (b : Bool), fs[k]? = some v → bs[k]? = some b → ∀ w', Below w.heap.size w w' → Calls Tryz.prog 73 #[v] w' fun e w'' => e = .returned (.bool (!b)) ∧ Below w'.heap.size w' w'') :
    Calls Tryz.prog 87 #[.slice a n c, .func (.func 73) #[] #[]] w fun e w' => e = .returned (.int .i64 (firstB 0 bs)) ∧ Below w.heap.size w w' := by
  have HR := Lib.hid hr
  have HF := Lib.hid hf
  have HL := Lib.hid hl
  clear hr hf hl
  go_enter Tryz.func87, Tryz.ntmps87
  go_wp2_with fail
  go_loopw [4, 5, 8] (fun _ _ s8 wr => ∃ i : Nat, i ≤ n ∧ s8 = .int .i64 i ∧ firstB 0 bs = firstB i (bs.drop i) ∧ Below w.heap.size w wr) (fun _ _ s8 _ => n - (intOf s8).toNat)
  case atStart => exact ⟨0, by omega, rfl, rfl, Below.refl _ _⟩
  case round =>
    obtain ⟨i, hi, rfl, hfi, hb⟩ := hrel
    by_cases hlt : i < n
    · have hil : (i : Int) < (n : Int) := by omega
      have hfl : fs.length = n := by have := HR.out.len; omega
      obtain ⟨g, o, rfl, hg, hc⟩ := (HR.out.on hb).at_ (by omega)
      obtain ⟨v, hv⟩ : ∃ v, fs[i]? = some v := ⟨_, List.getElem?_eq_getElem (by omega)⟩
      obtain ⟨b, hbv⟩ : ∃ b, bs[i]? = some b := ⟨_, List.getElem?_eq_getElem (by rw [HL.out]; omega)⟩
      have c0 := hc i v hv
      have HN := Lib.hid (show firstB 0 bs = if b then firstB (i + 1) (bs.drop (i + 1)) else (i : Int) by rw [hfi, firstB_drop _ _ _ hbv])
      have HS := Lib.hid (HF.out i v b hv hbv wr hb)
      have HB := Lib.hid hb
      clear hfi hv hbv hc hb hfl
      go_wp2_with fail
      refine HS.out.mono ?_
      rintro e w2 ⟨rfl, hb2⟩
      have HB2 := Lib.hid (HB.out.trans (hb2.mono HB.out.size))
      clear hb2
      cases b with
      | false =>
        have HR := Lib.hid (show firstB 0 bs = (i : Int) by rw [HN.out]; rfl)
        go_wp2_with fail
        go_ret
        exact ⟨by rw [HR.out]; try rfl, HB2.out⟩
      | true =>
        have HR := Lib.hid (show firstB 0 bs = firstB (i + 1) (bs.drop (i + 1)) by rw [HN.out]; rfl)
        go_wp2_with fail
        go_roundw
        case rel => exact ⟨i + 1, by omega, by go_num, HR.out, HB2.out⟩
        case measure => simp [intOf]; omega
    · have hge : ¬ (i : Int) < (n : Int) := by omega
      have HR := Lib.hid (show firstB 0 bs = -1 by rw [hfi, List.drop_eq_nil_of_le (by rw [HL.out]; omega)]; rfl)
      have HB := Lib.hid hb
      clear hfi hb
      go_wp2_with fail
      go_ret
      exact ⟨by rw [HR.out]; try rfl, HB.out⟩
set_option maxRecDepth 100000 in
set_option maxHeartbeats 2000000 in
theorem containsQ_any (w : World) (a : Option Addr) (n c : Nat) (fs : List Value) (bs : List Bool) (hr : RowsAt w a n c 1 fs) (hl : bs.length = n) (hn : n ≤ 1000)
    (hf : ∀ (k : Nat) (v : Value) (b : Bool), fs[k]? = some v → bs[k]? = some b → ∀ w', Below w.heap.size w w' → Calls Tryz.prog 73 #[v] w' fun e w'' => e = .returned (.bool (!b)) ∧ Below w'.heap.size w' w'') :
    Calls Tryz.prog 72 #[.slice a n c, .func (.func 73) #[] #[]] w fun e w' => e = .returned (.bool (!(bs.all id))) ∧ Below w.heap.size w w' := by
  have HI := Lib.hid (indexQ_any w a n c fs bs hr hl hn hf)
  have HA := Lib.hid (firstB_all bs 0)
  clear hr hf
  generalize firstB 0 bs = v at *
  go_enter Tryz.func72, Tryz.ntmps72
  go_wp2_with fail
  refine HI.out.mono ?_
  rintro e w1 ⟨rfl, hb⟩
  have HB := Lib.hid hb
  clear hb
  go_wp2_with fail
  go_ret
  exact ⟨by rw [← HA.out]; try rfl, HB.out⟩
set_option maxRecDepth 100000 in
set_option maxHeartbeats 2000000 in
theorem every_any (w : World) (a : Option Addr) (n c : Nat) (fs : List Value) (bs : List Bool) (hr : RowsAt w a n c 1 fs) (hl : bs.length = n) (hn : n ≤ 1000)
    (hf : ∀ (k : Nat) (v : Value) (b : Bool), fs[k]? = some v → bs[k]? = some b → ∀ w', Below w.heap.size w w' → Calls Tryz.prog 73 #[v] w' fun e w'' => e = .returned (.bool (!b)) ∧ Below w'.heap.size w' w'') :
    Calls Tryz.prog 44 #[.slice a n c] w fun e w' => e = .returned (.bool (bs.all id)) ∧ Below w.heap.size w w' := by
  have HI := Lib.hid (containsQ_any w a n c fs bs hr hl hn hf)
  clear hr hf hl
  generalize bs.all id = v at *
  go_enter Tryz.func44, Tryz.ntmps44
  go_wp2_with fail
  refine HI.out.mono ?_
  rintro e w1 ⟨rfl, hb⟩
  have HB := Lib.hid hb
  clear hb HI
  cases v with
  | true =>
    go_wp2_with fail
    go_ret
    exact ⟨by try rfl, HB.out⟩
  | false =>
    go_wp2_with fail
    go_ret
    exact ⟨by try rfl, HB.out⟩
set_option maxRecDepth 100000 in
set_option maxHeartbeats 2000000 in
theorem bounds1_any (w : World) (sx : Nat) (s : Sn) (h : SnAt w sx s) : Calls Tryz.prog 45 #[.pointer (some ⟨sx, 0, none⟩)] w fun e w' => e = .returned (.bool (!s.tcUp || (decide (s.base ≤ s.stable) && decide (s.stable ≤ s.last)))) ∧ w = w' := by
  obtain ⟨c0, c1, c2, c3, c4, c5, c6, c7, c8, _, c10, c11⟩ := h.cells
  obtain ⟨tcUp, dcUp, ready, sync, base, stable, last, eosl, low, _, _, _, aa, an, ac, fly⟩ := s
  simp only at c0 c1 c2 c3 c4 c5 c6 c7 c8 c10 c11
  clear h
  go_enter Tryz.func45, Tryz.ntmps45
  cases tcUp with
  | true =>
    by_cases h0 : base ≤ stable
    · have eh0 : (base : Int) ≤ (stable : Int) := by omega
      by_cases h1 : stable ≤ last
      · have eh1 : (stable : Int) ≤ (last : Int) := by omega
        have HV := Lib.hid (show (!true || (decide (base ≤ stable) && decide (stable ≤ last))) = true by simp [h0, h1])
        go_wp2_with fail
        go_ret
        exact ⟨by first | rfl | (rw [HV.out]; rfl) | (simp [h0, h1]; done) | (simp; omega), rfl⟩
      · have eh1 : ¬ (stable : Int) ≤ (last : Int) := by omega
        have HV := Lib.hid (show (!true || (decide (base ≤ stable) && decide (stable ≤ last))) = false by simp [h0, h1])
        go_wp2_with fail
        go_ret
        exact ⟨by first | rfl | (rw [HV.out]; rfl) | (simp [h0, h1]; done) | (simp; omega), rfl⟩
    · have eh0 : ¬ (base : Int) ≤ (stable : Int) := by omega
      have HV := Lib.hid (show (!true || (decide (base ≤ stable) && decide (stable ≤ last))) = false by simp [h0])
      go_wp2_with fail
      go_ret
      exact ⟨by first | rfl | (rw [HV.out]; rfl) | (simp [h0]; done) | (simp; omega), rfl⟩
  | false =>
    have HV := Lib.hid (show (!false || (decide (base ≤ stable) && decide (stable ≤ last))) = true by simp)
    go_wp2_with fail
    go_ret
    exact ⟨by first | rfl | (rw [HV.out]; rfl) | (simp; done) | (simp; omega), rfl⟩
set_option maxRecDepth 100000 in
set_option maxHeartbeats 2000000 in
theorem bounds2_any (w : World) (sx : Nat) (s : Sn) (h : SnAt w sx s) : Calls Tryz.prog 46 #[.pointer (some ⟨sx, 0, none⟩)] w fun e w' => e = .returned (.bool (!s.dcUp || decide (s.low ≤ s.eosl))) ∧ w = w' := by
  obtain ⟨c0, c1, c2, c3, c4, c5, c6, c7, c8, _, c10, c11⟩ := h.cells
  obtain ⟨tcUp, dcUp, ready, sync, base, stable, last, eosl, low, _, _, _, aa, an, ac, fly⟩ := s
  simp only at c0 c1 c2 c3 c4 c5 c6 c7 c8 c10 c11
  clear h
  go_enter Tryz.func46, Tryz.ntmps46
  cases dcUp with
  | true =>
    by_cases h0 : low ≤ eosl
    · have eh0 : (low : Int) ≤ (eosl : Int) := by omega
      have HV := Lib.hid (show (!true || decide (low ≤ eosl)) = true by simp [h0])
      go_wp2_with fail
      go_ret
      exact ⟨by first | rfl | (rw [HV.out]; rfl) | (simp [h0]; done) | (simp; omega), rfl⟩
    · have eh0 : ¬ (low : Int) ≤ (eosl : Int) := by omega
      have HV := Lib.hid (show (!true || decide (low ≤ eosl)) = false by simp [h0])
      go_wp2_with fail
      go_ret
      exact ⟨by first | rfl | (rw [HV.out]; rfl) | (simp [h0]; done) | (simp; omega), rfl⟩
  | false =>
    have HV := Lib.hid (show (!false || decide (low ≤ eosl)) = true by simp)
    go_wp2_with fail
    go_ret
    exact ⟨by first | rfl | (rw [HV.out]; rfl) | (simp; done) | (simp; omega), rfl⟩
set_option maxRecDepth 100000 in
set_option maxHeartbeats 2000000 in
theorem bounds3_any (w : World) (sx : Nat) (s : Sn) (h : SnAt w sx s) : Calls Tryz.prog 47 #[.pointer (some ⟨sx, 0, none⟩)] w fun e w' => e = .returned (.bool (!s.tcUp || (!s.dcUp || decide (s.eosl ≤ s.stable)))) ∧ w = w' := by
  obtain ⟨c0, c1, c2, c3, c4, c5, c6, c7, c8, _, c10, c11⟩ := h.cells
  obtain ⟨tcUp, dcUp, ready, sync, base, stable, last, eosl, low, _, _, _, aa, an, ac, fly⟩ := s
  simp only at c0 c1 c2 c3 c4 c5 c6 c7 c8 c10 c11
  clear h
  go_enter Tryz.func47, Tryz.ntmps47
  cases tcUp with
  | true =>
    cases dcUp with
    | true =>
      by_cases h0 : eosl ≤ stable
      · have eh0 : (eosl : Int) ≤ (stable : Int) := by omega
        have HV := Lib.hid (show (!true || (!true || decide (eosl ≤ stable))) = true by simp [h0])
        go_wp2_with fail
        go_ret
        exact ⟨by first | rfl | (rw [HV.out]; rfl) | (simp [h0]; done) | (simp; omega), rfl⟩
      · have eh0 : ¬ (eosl : Int) ≤ (stable : Int) := by omega
        have HV := Lib.hid (show (!true || (!true || decide (eosl ≤ stable))) = false by simp [h0])
        go_wp2_with fail
        go_ret
        exact ⟨by first | rfl | (rw [HV.out]; rfl) | (simp [h0]; done) | (simp; omega), rfl⟩
    | false =>
      have HV := Lib.hid (show (!true || (!false || decide (eosl ≤ stable))) = true by simp)
      go_wp2_with fail
      go_ret
      exact ⟨by first | rfl | (rw [HV.out]; rfl) | (simp; done) | (simp; omega), rfl⟩
  | false =>
    have HV := Lib.hid (show (!false || (!dcUp || decide (eosl ≤ stable))) = true by simp)
    go_wp2_with fail
    go_ret
    exact ⟨by first | rfl | (rw [HV.out]; rfl) | (simp; done) | (simp; omega), rfl⟩
set_option maxRecDepth 100000 in
set_option maxHeartbeats 2000000 in
theorem bounds4_any (w : World) (sx : Nat) (s : Sn) (h : SnAt w sx s) : Calls Tryz.prog 48 #[.pointer (some ⟨sx, 0, none⟩)] w fun e w' => e = .returned (.bool (decide (s.an ≤ 6) && (decide (0 ≤ s.fly) && decide (s.fly ≤ 400)))) ∧ w = w' := by
  obtain ⟨c0, c1, c2, c3, c4, c5, c6, c7, c8, _, c10, c11⟩ := h.cells
  obtain ⟨tcUp, dcUp, ready, sync, base, stable, last, eosl, low, _, _, _, aa, an, ac, fly⟩ := s
  simp only at c0 c1 c2 c3 c4 c5 c6 c7 c8 c10 c11
  clear h
  go_enter Tryz.func48, Tryz.ntmps48
  by_cases h0 : an ≤ 6
  · have eh0 : (an : Int) ≤ (6 : Int) := by omega
    by_cases h1 : 0 ≤ fly
    · have eh1 : (0 : Int) ≤ (fly : Int) := by omega
      by_cases h2 : fly ≤ 400
      · have eh2 : (fly : Int) ≤ (400 : Int) := by omega
        have HV := Lib.hid (show (decide (an ≤ 6) && (decide (0 ≤ fly) && decide (fly ≤ 400))) = true by simp [h0, h1, h2])
        go_wp2_with fail
        go_ret
        exact ⟨by first | rfl | (rw [HV.out]; rfl) | (simp [h0, h1, h2]; done) | (simp; omega), rfl⟩
      · have eh2 : ¬ (fly : Int) ≤ (400 : Int) := by omega
        have HV := Lib.hid (show (decide (an ≤ 6) && (decide (0 ≤ fly) && decide (fly ≤ 400))) = false by simp [h0, h1, h2])
        go_wp2_with fail
        go_ret
        exact ⟨by first | rfl | (rw [HV.out]; rfl) | (simp [h0, h1, h2]; done) | (simp; omega), rfl⟩
    · have eh1 : ¬ (0 : Int) ≤ (fly : Int) := by omega
      have HV := Lib.hid (show (decide (an ≤ 6) && (decide (0 ≤ fly) && decide (fly ≤ 400))) = false by simp [h0, h1])
      go_wp2_with fail
      go_ret
      exact ⟨by first | rfl | (rw [HV.out]; rfl) | (simp [h0, h1]; done) | (simp; omega), rfl⟩
  · have eh0 : ¬ (an : Int) ≤ (6 : Int) := by omega
    have HV := Lib.hid (show (decide (an ≤ 6) && (decide (0 ≤ fly) && decide (fly ≤ 400))) = false by simp [h0])
    go_wp2_with fail
    go_ret
    exact ⟨by first | rfl | (rw [HV.out]; rfl) | (simp [h0]; done) | (simp; omega), rfl⟩
set_option maxRecDepth 100000 in
set_option maxHeartbeats 2000000 in
theorem quiet1_any (w : World) (sx : Nat) (s : Sn) (h : SnAt w sx s) : Calls Tryz.prog 52 #[.pointer (some ⟨sx, 0, none⟩)] w fun e w' => e = .returned (.bool (s.tcUp && (s.dcUp && (s.ready && decide (s.an = 0))))) ∧ w = w' := by
  obtain ⟨c0, c1, c2, c3, c4, c5, c6, c7, c8, _, c10, c11⟩ := h.cells
  obtain ⟨tcUp, dcUp, ready, sync, base, stable, last, eosl, low, _, _, _, aa, an, ac, fly⟩ := s
  simp only at c0 c1 c2 c3 c4 c5 c6 c7 c8 c10 c11
  clear h
  go_enter Tryz.func52, Tryz.ntmps52
  cases tcUp with
  | true =>
    cases dcUp with
    | true =>
      cases ready with
      | true =>
        by_cases h0 : an = 0
        · have eh0 : ((an : Int) == (0 : Int)) = true := by simp [h0]
          have HV := Lib.hid (show (true && (true && (true && decide (an = 0)))) = true by simp [h0])
          go_wp2_with fail
          go_ret
          exact ⟨by first | rfl | (rw [HV.out]; rfl) | (simp [h0]; done) | (simp; omega), rfl⟩
        · have eh0 : ((an : Int) == (0 : Int)) = false := by simp; omega
          have HV := Lib.hid (show (true && (true && (true && decide (an = 0)))) = false by simp [h0])
          go_wp2_with fail
          go_ret
          exact ⟨by first | rfl | (rw [HV.out]; rfl) | (simp [h0]; done) | (simp; omega), rfl⟩
      | false =>
        have HV := Lib.hid (show (true && (true && (false && decide (an = 0)))) = false by simp)
        go_wp2_with fail
        go_ret
        exact ⟨by first | rfl | (rw [HV.out]; rfl) | (simp; done) | (simp; omega), rfl⟩
    | false =>
      have HV := Lib.hid (show (true && (false && (ready && decide (an = 0)))) = false by simp)
      go_wp2_with fail
      go_ret
      exact ⟨by first | rfl | (rw [HV.out]; rfl) | (simp; done) | (simp; omega), rfl⟩
  | false =>
    have HV := Lib.hid (show (false && (dcUp && (ready && decide (an = 0)))) = false by simp)
    go_wp2_with fail
    go_ret
    exact ⟨by first | rfl | (rw [HV.out]; rfl) | (simp; done) | (simp; omega), rfl⟩
set_option maxRecDepth 100000 in
set_option maxHeartbeats 2000000 in
theorem quiet2_any (w : World) (sx : Nat) (s : Sn) (h : SnAt w sx s) : Calls Tryz.prog 53 #[.pointer (some ⟨sx, 0, none⟩)] w fun e w' => e = .returned (.bool (decide (s.low = s.eosl) && (decide (s.eosl = s.stable) && decide (s.stable = s.last)))) ∧ w = w' := by
  obtain ⟨c0, c1, c2, c3, c4, c5, c6, c7, c8, _, c10, c11⟩ := h.cells
  obtain ⟨tcUp, dcUp, ready, sync, base, stable, last, eosl, low, _, _, _, aa, an, ac, fly⟩ := s
  simp only at c0 c1 c2 c3 c4 c5 c6 c7 c8 c10 c11
  clear h
  go_enter Tryz.func53, Tryz.ntmps53
  by_cases h0 : low = eosl
  · have eh0 : ((low : Int) == (eosl : Int)) = true := by simp [h0]
    by_cases h1 : eosl = stable
    · have eh1 : ((eosl : Int) == (stable : Int)) = true := by simp [h1]
      by_cases h2 : stable = last
      · have eh2 : ((stable : Int) == (last : Int)) = true := by simp [h2]
        have HV := Lib.hid (show (decide (low = eosl) && (decide (eosl = stable) && decide (stable = last))) = true by simp [h0, h1, h2])
        go_wp2_with fail
        go_ret
        exact ⟨by first | rfl | (rw [HV.out]; rfl) | (simp [h0, h1, h2]; done) | (simp; omega), rfl⟩
      · have eh2 : ((stable : Int) == (last : Int)) = false := by simp; omega
        have HV := Lib.hid (show (decide (low = eosl) && (decide (eosl = stable) && decide (stable = last))) = false by simp [h0, h1, h2])
        go_wp2_with fail
        go_ret
        exact ⟨by first | rfl | (rw [HV.out]; rfl) | (simp [h0, h1, h2]; done) | (simp; omega), rfl⟩
    · have eh1 : ((eosl : Int) == (stable : Int)) = false := by simp; omega
      have HV := Lib.hid (show (decide (low = eosl) && (decide (eosl = stable) && decide (stable = last))) = false by simp [h0, h1])
      go_wp2_with fail
      go_ret
      exact ⟨by first | rfl | (rw [HV.out]; rfl) | (simp [h0, h1]; done) | (simp; omega), rfl⟩
  · have eh0 : ((low : Int) == (eosl : Int)) = false := by simp; omega
    have HV := Lib.hid (show (decide (low = eosl) && (decide (eosl = stable) && decide (stable = last))) = false by simp [h0])
    go_wp2_with fail
    go_ret
    exact ⟨by first | rfl | (rw [HV.out]; rfl) | (simp [h0]; done) | (simp; omega), rfl⟩
end Go.Proofs.YtecknikehieioaaGreat
