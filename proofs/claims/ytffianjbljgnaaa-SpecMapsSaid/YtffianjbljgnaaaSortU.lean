/-
  Texts folded into one: Pdq, PdqZ, SortU.
-/
import Derived.Test.YtffianjbljgnaaaPdqR
import Derived.Test.YtffianjbljgnaaaPdqS
import Derived.Test.YtffianjbljgnaaaPdqP
import Derived.Test.YtffianjbljgnaaaPdqE
import Derived.Test.YtffianjbljgnaaaPdqI
import Derived.Test.YtffianjbljgnaaaPdqB
import Derived.Test.YtffianjbljgnaaaIterU

/-! ### Pdq -/
namespace Go.Proofs.Ytffianjbljgnaaa
set_option linter.unusedVariables false
set_option linter.unusedSimpArgs false
open Go.RowKit
/-- What a sort of the places a to b ends with. -/
def SortEnd (g a b : Nat) (d : Array Nat) (rest : List Value) (w : World) (e : Ending) (w' : World) : Prop := ∃ d' : Array Nat, e = .returned (.tuple #[]) ∧ Sort.PermIn a b d d' ∧ Sort.SortedIn below64 a b d' ∧ ArrAt w' g d' rest ∧ Mod [g] w w'
theorem insA_any (g : Nat) (d : Array Nat) (rest : List Value) (cap a b : Nat) (hab : a ≤ b) (hb : b ≤ d.size) (hcap : d.size ≤ cap) (hsz : d.size ≤ 1000000) (w : World) (h : ArrAt w g d rest) :
    Calls Try.prog 78 #[.slice (some ⟨g, 0, none⟩) d.size cap, .int .i64 a, .int .i64 b] w (SortEnd g a b d rest w) := by
  obtain ⟨P, hP⟩ : ∃ P, d.toList.take a = P := ⟨_, rfl⟩
  obtain ⟨D, hD⟩ : ∃ D, (d.toList.drop a).take (b - a) = D := ⟨_, rfl⟩
  obtain ⟨Q, hQ⟩ : ∃ Q, d.toList.drop b = Q := ⟨_, rfl⟩
  have hl : d.toList.length = d.size := Array.length_toList
  have hPl : P.length = a := by rw [← hP, List.length_take]; omega
  have hDl : D.length = b - a := by rw [← hD, List.length_take, List.length_drop]; omega
  have hQl : Q.length = d.size - b := by rw [← hQ, List.length_drop]; omega
  have hall : d.toList = P ++ (D ++ Q) := by
    rw [← hP, ← hD, ← hQ]
    have e2 : d.toList.drop b = (d.toList.drop a).drop (b - a) := by rw [List.drop_drop, show a + (b - a) = b by omega]
    rw [e2, List.take_append_drop, List.take_append_drop]
  have hI := insort_any g P D Q rest cap d.size a b (by omega) (by omega) (by omega) hcap (by omega) w (by unfold ArrAt at h; rw [hall] at h; exact h)
  refine hI.mono ?_
  rintro e w' ⟨rfl, hb', hm⟩
  have hsl : (isort below64 D).length = b - a := by rw [(isort_perm below64 D).length_eq, hDl]
  have get : ∀ i, i < d.size → ((P ++ (isort below64 D ++ Q)).toArray)[i]! = (P ++ (isort below64 D ++ Q))[i]! := fun i hi => by simp
  have hsize : (P ++ (isort below64 D ++ Q)).toArray.size = d.size := by simp; omega
  refine ⟨(P ++ (isort below64 D ++ Q)).toArray, rfl, ⟨hsize, fun i hi => ?_, ?_⟩, fun i j hi hij hj => ?_, hb', hm⟩
  · have e1 : ∀ (l : List Nat) (i : Nat), l.toArray[i]! = (l[i]?).getD 0 := fun l i => by simp [getElem!_def]; cases l[i]? <;> rfl
    have e2 : d[i]! = (d.toList[i]?).getD 0 := by rw [← e1]
    rw [e1, e2, hall]
    by_cases h1 : i < a
    · rw [List.getElem?_append_left (by omega), List.getElem?_append_left (by omega)]
    · have h2 : b ≤ i := by omega
      rw [List.getElem?_append_right (by omega), List.getElem?_append_right (by omega), List.getElem?_append_right (by omega), List.getElem?_append_right (by omega), hsl, hDl]
  · have ex : ∀ (l : List Nat), l.length = b - a → ((P ++ (l ++ Q)).toArray.extract a b).toList = l := fun l hl => by
      rw [Array.toList_extract]
      simp only [List.extract_eq_take_drop]
      rw [List.drop_append_of_le_length (by omega), List.drop_of_length_le (by omega), List.nil_append, List.take_append_of_le_length (by omega), List.take_of_length_le (by omega)]
    rw [ex _ hsl]
    have : (d.extract a b).toList = D := by
      have := ex D hDl
      rw [← hall] at this
      simpa using this
    rw [this]
    exact isort_perm _ _
  · have e1 : ∀ i, a ≤ i → i < b → ((P ++ (isort below64 D ++ Q)).toArray)[i]! = ((isort below64 D)[i - a]?).getD 0 := fun i h1 h2 => by
      have : ((P ++ (isort below64 D ++ Q)).toArray)[i]! = ((P ++ (isort below64 D ++ Q))[i]?).getD 0 := by simp [getElem!_def]; cases (P ++ (isort below64 D ++ Q))[i]? <;> rfl
      rw [this, List.getElem?_append_right (by omega), List.getElem?_append_left (by omega), hPl]
    rw [e1 i (by omega) (by omega), e1 j (by omega) (by omega)]
    have hs := List.pairwise_iff_getElem.1 (isort_asc D) (i - a) (j - a) (by omega) (by omega) (by omega)
    rw [List.getElem?_eq_getElem (by omega), List.getElem?_eq_getElem (by omega)]
    simp only [Option.getD_some, below64, decide_eq_false_iff_not]
    omega
def PdqP (N : Nat) : Prop := ∀ (g : Nat) (d : Array Nat) (rest : List Value) (cap a b limit : Nat), b - a = N → a ≤ b → b ≤ d.size → d.size ≤ cap → d.size ≤ 1000000 → limit ≤ 1000 → Sort.Below below64 a b d → ∀ w, ArrAt w g d rest →
  Calls Try.prog 70 #[.slice (some ⟨g, 0, none⟩) d.size cap, .int .i64 a, .int .i64 b, .int .i64 limit] w (SortEnd g a b d rest w)
set_option maxRecDepth 100000 in
set_option maxHeartbeats 16000000 in
theorem pdq_step (N : Nat) (ih : ∀ m, m < N → PdqP m) : PdqP N := by
  intro g d rest cap a b limit hN hab hb hcap hsz hlim hbel w h
  obtain ⟨n, hn⟩ : ∃ n, d.size = n := ⟨_, rfl⟩
  rw [hn]
  have IH := Lib.hid ih
  have HA := Lib.hid h
  have HBel := Lib.hid hbel
  clear ih h hbel
  go_enter Try.func70, Try.ntmps70
  go_wp2_with fail
  go_loopw [1, 2, 3, 8, 9] (fun s1 s2 s3 s8 s9 wr => ∃ (ac bc lc : Nat) (B8 B9 : Bool) (dc : Array Nat), s1 = .int .i64 ac ∧ s2 = .int .i64 bc ∧ s3 = .int .i64 lc ∧ s8 = .bool B8 ∧ s9 = .bool B9 ∧ a ≤ ac ∧ ac ≤ bc ∧ bc ≤ b ∧ dc.size = n ∧ lc ≤ limit ∧ Sort.Below below64 ac bc dc ∧ (∀ D, Sort.PermIn ac bc dc D → Sort.SortedIn below64 ac bc D → Sort.PermIn a b d D ∧ Sort.SortedIn below64 a b D) ∧ ArrAt wr g dc rest ∧ Mod [g] w wr) (fun s1 s2 _ _ _ _ => (intOf s2 - intOf s1).toNat)
  case atStart => exact ⟨a, b, limit, true, true, d, rfl, rfl, rfl, rfl, rfl, by omega, hab, by omega, hn, by omega, HBel.out, fun D h1 h2 => ⟨h1, h2⟩, HA.out, Mod.refl _ _⟩
  case round =>
    clear HA HBel
    obtain ⟨ac, bc, lc, B8, B9, dc, rfl, rfl, rfl, rfl, rfl, h1, h2, h3, hz, hll, hbel, hinv, hA, hm⟩ := hrel
    have HAr := Lib.hid hA
    have HMr := Lib.hid hm
    have HBel := Lib.hid hbel
    have HInv := Lib.hid hinv
    clear hA hm hbel hinv
    obtain ⟨l, hl⟩ : ∃ l, bc - ac = l := ⟨_, rfl⟩
    have hli : (bc : Int) - (ac : Int) = (l : Int) := by omega
    by_cases hs12 : l ≤ 12
    · have hs12i : (l : Int) ≤ 12 := by omega
      have HC := Lib.hid (insA_any g dc rest cap ac bc (by omega) (by omega) (by omega) (by omega) wr HAr.out)
      rw [hz] at HC
      go_wp2_with fail
      refine HC.out.mono ?_
      rintro e w1 ⟨D, rfl, hp, hs, hA1, hm1⟩
      have HE := Lib.hid (show SortEnd g a b d rest w (.returned (.tuple #[])) w1 from ⟨D, rfl, (HInv.out D hp hs).1, (HInv.out D hp hs).2, hA1, HMr.out.trans hm1⟩)
      clear hp hs hA1 hm1 HC
      go_wp2_with fail
      refine bodyPost_ret (results_none rfl _ _ _) rfl ?_
      exact HE.out
    · have hs12i : ¬ (l : Int) ≤ 12 := by omega
      by_cases hl0 : lc = 0
      · have hl0i : (lc : Int) = 0 := by omega
        have HC := Lib.hid (heap_any g dc rest cap ac bc (by omega) (by omega) (by omega) (by omega) wr HAr.out)
        rw [hz] at HC
        have HH := Lib.hid (Sort.heapSort_holds swo64 dc ac bc (by omega) (by omega))
        go_wp2_with fail
        refine HC.out.mono ?_
        rintro e w1 ⟨rfl, hA1, hm1⟩
        have HE := Lib.hid (show SortEnd g a b d rest w (.returned (.tuple #[])) w1 from ⟨_, rfl, (HInv.out _ HH.out.1 HH.out.2).1, (HInv.out _ HH.out.1 HH.out.2).2, hA1, HMr.out.trans hm1⟩)
        clear hA1 hm1 HC HH
        go_wp2_with fail
        refine bodyPost_ret (results_none rfl _ _ _) rfl ?_
        exact HE.out
      · have hl0i : ¬ (lc : Int) = 0 := by omega
        go_upto_if 35 with fail
        go_cut [3] (fun s3 wx => ∃ (le : Nat) (d1 : Array Nat), s3 = .int .i64 le ∧ le ≤ lc ∧ Sort.PermIn ac bc dc d1 ∧ ArrAt wx g d1 rest ∧ Mod [g] w wx)
        case first =>
          cases B8 with
          | true =>
            go_wp2_with fail
            go_meet
            exact ⟨lc, dc, rfl, Nat.le_refl _, Sort.permIn_refl _ _ _, HAr.out, HMr.out⟩
          | false =>
            have HC := Lib.hid (break_any g dc rest cap ac bc (by omega) (by omega) (by omega) (by omega) wr HAr.out)
            rw [hz] at HC
            go_wp2_with fail
            refine HC.out.mono ?_
            rintro e w1 ⟨D, rfl, hp, hA1, hm1⟩
            have HR := Lib.hid (show ∃ (le : Nat) (d1 : Array Nat), Value.int .i64 ((lc : Int) - 1) = .int .i64 le ∧ le ≤ lc ∧ Sort.PermIn ac bc dc d1 ∧ ArrAt w1 g d1 rest ∧ Mod [g] w w1 from ⟨lc - 1, D, by rw [show ((lc - 1 : Nat) : Int) = (lc : Int) - 1 by omega], by omega, hp, hA1, HMr.out.trans hm1⟩)
            clear hp hA1 hm1 HC
            go_wp2_with fail
            go_meet
            exact HR.out
        rename World => w1
        obtain ⟨le, d1, rfl, hle, hp1, hA1, hm1⟩ := hcut
        have hz1 : d1.size = n := by rw [hp1.1, hz]
        have HA1 := Lib.hid hA1
        have HM1 := Lib.hid hm1
        have HP1 := Lib.hid hp1
        clear hA1 hm1 hp1 HAr HMr
        have HC := Lib.hid (pivot_any g d1 rest cap ac bc (by omega) (by omega) (by omega) (by omega) w1 HA1.out)
        rw [hz1] at HC
        go_wp2_with fail
        refine HC.out.mono ?_
        rintro e w2 ⟨p, z, rfl, hpa, hpb, hz0, hz2, hb2⟩
        have HA2 := Lib.hid (HA1.out.on hb2)
        have HM2 := Lib.hid (HM1.out.thenBelow hb2)
        clear hb2 HA1 HM1 HC
        go_upto_if 50 with fail
        go_cut [11, 12] (fun s11 s12 wx => ∃ (p2 : Nat) (z2 : Int) (d2 : Array Nat), s11 = .int .i64 p2 ∧ s12 = .int .i64 z2 ∧ ac ≤ p2 ∧ p2 < bc ∧ 0 ≤ z2 ∧ z2 ≤ 2 ∧ Sort.PermIn ac bc dc d2 ∧ ArrAt wx g d2 rest ∧ Mod [g] w wx)
        case first =>
          by_cases hz22 : z = 2
          · subst hz22
            have HC := Lib.hid (reverse_any g d1 rest cap ac bc (by omega) (by omega) (by omega) (by omega) w2 HA2.out)
            rw [hz1] at HC
            have HH := Lib.hid (Sort.permIn_trans _ _ _ _ _ HP1.out (Sort.reverseRange_holds d1 ac bc (by omega) (by omega)))
            go_wp2_with fail
            refine HC.out.mono ?_
            rintro e w3 ⟨rfl, hA3, hm3⟩
            have HR := Lib.hid (show ∃ (p2 : Nat) (z2 : Int) (d2 : Array Nat), Value.int .i64 ((bc : Int) - 1 - ((p : Int) - (ac : Int))) = .int .i64 p2 ∧ Value.int .i64 1 = .int .i64 z2 ∧ ac ≤ p2 ∧ p2 < bc ∧ 0 ≤ z2 ∧ z2 ≤ 2 ∧ Sort.PermIn ac bc dc d2 ∧ ArrAt w3 g d2 rest ∧ Mod [g] w w3 from
              ⟨(bc - 1) - (p - ac), 1, _, by rw [show (((bc - 1) - (p - ac) : Nat) : Int) = (bc : Int) - 1 - ((p : Int) - (ac : Int)) by omega], rfl, by omega, by omega, by omega, by omega, HH.out, hA3, HM2.out.trans hm3⟩)
            clear hA3 hm3 HC HH
            go_wp2_with fail
            go_meet
            exact HR.out
          · go_wp2_with fail
            go_meet
            exact ⟨p, z, d1, rfl, rfl, hpa, hpb, hz0, hz2, HP1.out, HA2.out, HM2.out⟩
        clear hpa hpb hz0 hz2 HA2 HM2
        rename World => w3
        obtain ⟨p2, z2, d2, rfl, rfl, hpa, hpb, hz0, hz2, hp2, hA3, hm3⟩ := hcut
        have hzz2 : d2.size = n := by rw [hp2.1, hz]
        have HA3 := Lib.hid hA3
        have HM3 := Lib.hid hm3
        have HP2 := Lib.hid hp2
        clear hA3 hm3 hp2 HP1
        go_upto_region 15 with fail
        go_cut [68] (fun s68 wx => ∃ Bc : Bool, s68 = .bool Bc ∧ w3 = wx)
        case first =>
          cases B8 with
          | false =>
            go_wp2_with fail
            go_meet
            exact ⟨_, rfl, rfl⟩
          | true =>
            cases B9 with
            | false =>
              go_wp2_with fail
              go_meet
              exact ⟨_, rfl, rfl⟩
            | true =>
              by_cases hz1' : z2 = 1
              · subst hz1'
                go_wp2_with fail
                go_meet
                exact ⟨_, rfl, rfl⟩
              · go_wp2_with fail
                go_meet
                exact ⟨_, rfl, rfl⟩
        obtain ⟨Bc, rfl, rfl⟩ := hcut
        have HBel2 := Lib.hid (HBel.out.perm (by omega) HP2.out)
        go_upto_if 68 with fail
        go_cut [] (fun wx => ∃ d3 : Array Nat, Sort.PermIn ac bc dc d3 ∧ ArrAt wx g d3 rest ∧ Mod [g] w wx)
        case first =>
          cases Bc with
          | false =>
            go_wp2_with fail
            go_meet
            exact ⟨d2, HP2.out, HA3.out, HM3.out⟩
          | true =>
            have HC := Lib.hid (partialIns_any g d2 rest cap ac bc (by omega) (by omega) (by omega) (by omega) w3 HA3.out)
            rw [hzz2] at HC
            have HH := Lib.hid (Sort.partialInsertionSort_holds swo64 d2 ac bc (by omega) (by omega) HBel2.out)
            obtain ⟨r, hr⟩ : ∃ r, Sort.partialInsertionSort below64 d2 ac bc = r := ⟨_, rfl⟩
            rw [hr] at HC HH
            obtain ⟨d3, ok⟩ := r
            clear hr
            go_wp2_with fail
            refine HC.out.mono ?_
            rintro e w4 ⟨rfl, hA4, hm4⟩
            have HA4 := Lib.hid hA4
            have HM4 := Lib.hid (HM3.out.trans hm4)
            clear hA4 hm4 HC
            cases ok with
            | true =>
              have HE := Lib.hid (show SortEnd g a b d rest w (.returned (.tuple #[])) w4 from ⟨d3, rfl, (HInv.out d3 (Sort.permIn_trans _ _ _ _ _ HP2.out HH.out.1) (HH.out.2 rfl)).1, (HInv.out d3 (Sort.permIn_trans _ _ _ _ _ HP2.out HH.out.1) (HH.out.2 rfl)).2, HA4.out, HM4.out⟩)
              go_wp2_with fail
              refine bodyPost_ret (results_none rfl _ _ _) rfl ?_
              exact HE.out
            | false =>
              have HR := Lib.hid (show ∃ d3 : Array Nat, Sort.PermIn ac bc dc d3 ∧ ArrAt w4 g d3 rest ∧ Mod [g] w w4 from ⟨d3, Sort.permIn_trans _ _ _ _ _ HP2.out HH.out.1, HA4.out, HM4.out⟩)
              go_wp2_with fail
              go_meet
              exact HR.out
        rename World => w5
        obtain ⟨d3, hp3, hA5, hm5⟩ := hcut
        have hz3 : d3.size = n := by rw [hp3.1, hz]
        have HA5 := Lib.hid hA5
        have HM5 := Lib.hid hm5
        have HP3 := Lib.hid hp3
        have HBel3 := Lib.hid (HBel.out.perm (by omega) hp3)
        clear hA5 hm5 hp3 HA3 HM3 HP2 HBel2 HBel
        obtain ⟨E, hE⟩ : ∃ E, (decide (ac > 0) && !below64 d3[ac - 1]! d3[p2]!) = E := ⟨_, rfl⟩
        have HEq := Lib.hid hE
        clear hE
        go_upto_region 17 with fail
        go_cut [87] (fun s87 wx => s87 = .bool E ∧ Below w5.heap.size w5 wx)
        case first =>
          by_cases ha0 : ac > 0
          · have ha0i : (0 : Int) < (ac : Int) := by omega
            obtain ⟨am, ham⟩ : ∃ x, ac - 1 = x := ⟨_, rfl⟩
            have hami : IntKind.i64.wrap ((ac : Int) - 1) = (am : Int) := by rw [show (ac : Int) - 1 = (am : Int) by omega]; exact IntWalk.i64_in _ (by omega)
            have hamn : (am : Int) < (n : Int) := by omega
            have hpn : (p2 : Int) < (n : Int) := by omega
            obtain ⟨v1, hv1⟩ : ∃ x, d3[am]! = x := ⟨_, rfl⟩
            obtain ⟨v2, hv2⟩ : ∃ x, d3[p2]! = x := ⟨_, rfl⟩
            have HF := Lib.hid (show ∀ w', Below w5.heap.size w5 w' → (w'.cell? ⟨g, am, none⟩ = some (.int .u64 (v1 : Nat)) ∧ w'.cell? ⟨g, p2, none⟩ = some (.int .u64 (v2 : Nat))) from fun w' hb => ⟨by rw [← hv1]; exact (HA5.out.on hb).get (by omega), by rw [← hv2]; exact (HA5.out.on hb).get (by omega)⟩)
            cases hlss : below64 v1 v2 with
            | true =>
              have HL := Lib.hid hlss
              have HV := Lib.hid (show E = false by rw [← HEq.out, ham, hv1, hv2, hlss]; simp [ha0])
              clear hlss hv1 hv2
              refine wp_region_settleF (Below w5.heap.size w5) (by kernel_rfl) (by kernel_rfl) (by kernel_rfl) (below_drew (Below.refl _ _)) ?_
              repeat (first
                | (refine settled_not ?_ ?_
                   · rfl
                   simp only [Act.put, List.setIfInBounds_toArray, List.set_cons_zero, List.set_cons_succ])
                | (refine settled_val (v := ?_) ?_ (fun w' hS => ?_) ?_
                   rotate_left
                   · rfl
                   · obtain ⟨k0, k1⟩ := HF.out w' hS
                     go_simp
                     with_reducible rfl
                   simp only [Act.put, List.setIfInBounds_toArray, List.set_cons_zero, List.set_cons_succ])
                | (refine settled_call (f := 84) (v := .bool true) ?_ (fun w' hS => ?_) (fun w' hS => ((less_any v1 v2 w').mono fun e w'' ⟨h1, h2⟩ => ⟨by rw [h1, HL.out], h2 ▸ hS⟩)) ?_
                   · rfl
                   · go_simp
                   simp only [Act.put, List.setIfInBounds_toArray, List.set_cons_zero, List.set_cons_succ]))
              refine settled_nil (fun w2 hS => ?_)
              have HS := Lib.hid hS
              clear hS HF
              go_wp2_with fail
              go_meet
              exact ⟨by rw [HV.out], HS.out⟩
            | false =>
              have HL := Lib.hid hlss
              have HV := Lib.hid (show E = true by rw [← HEq.out, ham, hv1, hv2, hlss]; simp [ha0])
              clear hlss hv1 hv2
              refine wp_region_settleF (Below w5.heap.size w5) (by kernel_rfl) (by kernel_rfl) (by kernel_rfl) (below_drew (Below.refl _ _)) ?_
              repeat (first
                | (refine settled_not ?_ ?_
                   · rfl
                   simp only [Act.put, List.setIfInBounds_toArray, List.set_cons_zero, List.set_cons_succ])
                | (refine settled_val (v := ?_) ?_ (fun w' hS => ?_) ?_
                   rotate_left
                   · rfl
                   · obtain ⟨k0, k1⟩ := HF.out w' hS
                     go_simp
                     with_reducible rfl
                   simp only [Act.put, List.setIfInBounds_toArray, List.set_cons_zero, List.set_cons_succ])
                | (refine settled_call (f := 84) (v := .bool false) ?_ (fun w' hS => ?_) (fun w' hS => ((less_any v1 v2 w').mono fun e w'' ⟨h1, h2⟩ => ⟨by rw [h1, HL.out], h2 ▸ hS⟩)) ?_
                   · rfl
                   · go_simp
                   simp only [Act.put, List.setIfInBounds_toArray, List.set_cons_zero, List.set_cons_succ]))
              refine settled_nil (fun w2 hS => ?_)
              have HS := Lib.hid hS
              clear hS HF
              go_wp2_with fail
              go_meet
              exact ⟨by rw [HV.out], HS.out⟩
          · have ha0i : ¬ (0 : Int) < (ac : Int) := by omega
            have HV := Lib.hid (show E = false by rw [← HEq.out]; simp [ha0])
            refine wp_region_settleF (Below w5.heap.size w5) (by kernel_rfl) (by kernel_rfl) (by kernel_rfl) (below_drew (Below.refl _ _)) ?_
            repeat (first
              | (refine settled_not ?_ ?_
                 · rfl
                 simp only [Act.put, List.setIfInBounds_toArray, List.set_cons_zero, List.set_cons_succ])
              | (refine settled_val (v := ?_) ?_ (fun w' hS => ?_) ?_
                 rotate_left
                 · rfl
                 · skip
                   go_simp
                   with_reducible rfl
                 simp only [Act.put, List.setIfInBounds_toArray, List.set_cons_zero, List.set_cons_succ]))
            refine settled_nil (fun w2 hS => ?_)
            have HS := Lib.hid hS
            clear hS
            go_wp2_with fail
            go_meet
            exact ⟨by rw [HV.out], HS.out⟩
        rename World => w6
        obtain ⟨rfl, hb6⟩ := hcut
        have HA6 := Lib.hid (HA5.out.on hb6)
        have HM6 := Lib.hid (HM5.out.thenBelow hb6)
        clear hb6 HA5 HM5
        cases E with
        | true =>
          have HC := Lib.hid (partitionEqual_any g d3 rest cap ac bc p2 (by omega) (by omega) (by omega) (by omega) (by omega) w6 HA6.out)
          rw [hz3] at HC
          obtain ⟨r, hr⟩ : ∃ r, Sort.partitionEqual below64 d3 ac bc p2 = r := ⟨_, rfl⟩
          obtain ⟨mid, d4⟩ := r
          have he := HEq.out
          simp only [Bool.and_eq_true, decide_eq_true_eq, Bool.not_eq_true'] at he
          obtain ⟨hm1, hm2, hzd, hB4, hall⟩ := Sort.round_eq swo64 (Sort.partitionEqual_holds _) he.1 hpa hpb (by omega) HBel3.out he.2 hr
          rw [hr] at HC
          have HAll := Lib.hid (show ∀ D, Sort.PermIn mid bc d4 D → Sort.SortedIn below64 mid bc D → Sort.PermIn a b d D ∧ Sort.SortedIn below64 a b D from fun D q1 q2 => HInv.out D (Sort.permIn_trans _ _ _ _ _ HP3.out (hall D q1 q2).1) (hall D q1 q2).2)
          have HB4 := Lib.hid hB4
          clear hr hall hB4 he
          go_wp2_with fail
          refine HC.out.mono ?_
          rintro e w7 ⟨rfl, hA7, hm7⟩
          have HA7 := Lib.hid hA7
          have HM7 := Lib.hid (HM6.out.trans hm7)
          clear hA7 hm7 HC
          go_wp2_with fail
          go_roundw
          case rel => exact ⟨mid, bc, le, B8, B9, d4, rfl, rfl, rfl, rfl, rfl, by omega, by omega, by omega, by rw [hzd, hz3], by omega, HB4.out, HAll.out, HA7.out, HM7.out⟩
          case measure => simp [intOf]; omega
        | false =>
          have HC := Lib.hid (partition_any g d3 rest cap ac bc p2 (by omega) (by omega) (by omega) (by omega) (by omega) w6 HA6.out)
          rw [hz3] at HC
          obtain ⟨r, hr⟩ : ∃ r, Sort.partition below64 d3 ac bc p2 = r := ⟨_, rfl⟩
          obtain ⟨mid, ap, d4⟩ := r
          obtain ⟨hm1, hm2, hzd, hBa, hBr, hL, hR⟩ := Sort.round_part swo64 (Sort.partition_holds _) hpa hpb (by omega) HBel3.out hr
          rw [hr] at HC
          have hz4 : d4.size = n := by rw [hzd, hz3]
          have HL := Lib.hid hL
          have HR := Lib.hid hR
          have HBa := Lib.hid hBa
          have HBr := Lib.hid hBr
          clear hr hL hR hBa hBr
          go_wp2_with fail
          refine HC.out.mono ?_
          rintro e w7 ⟨rfl, hA7, hm7⟩
          have HA7 := Lib.hid hA7
          have HM7 := Lib.hid (HM6.out.trans hm7)
          clear hA7 hm7 HC HA6 HM6
          obtain ⟨ll, hll1⟩ : ∃ x, mid - ac = x := ⟨_, rfl⟩
          obtain ⟨rl, hrl1⟩ : ∃ x, bc - mid = x := ⟨_, rfl⟩
          obtain ⟨q8, hq8⟩ : ∃ x, l / 8 = x := ⟨_, rfl⟩
          have hlli : (mid : Int) - (ac : Int) = (ll : Int) := by omega
          have hrli : (bc : Int) - (mid : Int) = (rl : Int) := by omega
          have hq8i : Int.tdiv (l : Int) 8 = (q8 : Int) := by rw [Int.tdiv_eq_ediv_of_nonneg (by omega)]; omega
          by_cases hlr : ll < rl
          · have hlri : (ll : Int) < (rl : Int) := by omega
            have HC := Lib.hid (IH.out ll (by omega) g d4 rest cap ac mid le hll1 (by omega) (by omega) (by omega) (by omega) (by omega) HBa.out w7 HA7.out)
            rw [hz4] at HC
            go_wp2_with fail
            refine HC.out.mono ?_
            rintro e w8 ⟨Lf, rfl, hpl, hsl, hA8, hm8⟩
            have HA8 := Lib.hid hA8
            have HM8 := Lib.hid (HM7.out.trans hm8)
            have HQ := Lib.hid (HL.out Lf hpl hsl)
            have hzl : Lf.size = n := by rw [hpl.1, hz4]
            have HAll := Lib.hid (show ∀ D, Sort.PermIn (mid + 1) bc Lf D → Sort.SortedIn below64 (mid + 1) bc D → Sort.PermIn a b d D ∧ Sort.SortedIn below64 a b D from fun D q1 q2 => HInv.out D (Sort.permIn_trans _ _ _ _ _ HP3.out (HQ.out.2 D q1 q2).1) (HQ.out.2 D q1 q2).2)
            clear hA8 hm8 hpl hsl HC HA7 HM7
            go_wp2_with fail
            go_roundw
            case rel => exact ⟨mid + 1, bc, le, _, ap, Lf, by go_num, rfl, rfl, rfl, rfl, by omega, by omega, by omega, hzl, by omega, HQ.out.1, HAll.out, HA8.out, HM8.out⟩
            case measure => simp [intOf]; omega
          · have hlri : ¬ (ll : Int) < (rl : Int) := by omega
            have HC := Lib.hid (IH.out (bc - (mid + 1)) (by omega) g d4 rest cap (mid + 1) bc le rfl (by omega) (by omega) (by omega) (by omega) (by omega) HBr.out w7 HA7.out)
            rw [hz4, show ((mid + 1 : Nat) : Int) = (mid : Int) + 1 by omega] at HC
            go_wp2_with fail
            refine HC.out.mono ?_
            rintro e w8 ⟨Lf, rfl, hpl, hsl, hA8, hm8⟩
            have HA8 := Lib.hid hA8
            have HM8 := Lib.hid (HM7.out.trans hm8)
            have HQ := Lib.hid (HR.out Lf hpl hsl)
            have hzl : Lf.size = n := by rw [hpl.1, hz4]
            have HAll := Lib.hid (show ∀ D, Sort.PermIn ac mid Lf D → Sort.SortedIn below64 ac mid D → Sort.PermIn a b d D ∧ Sort.SortedIn below64 a b D from fun D q1 q2 => HInv.out D (Sort.permIn_trans _ _ _ _ _ HP3.out (HQ.out.2 D q1 q2).1) (HQ.out.2 D q1 q2).2)
            clear hA8 hm8 hpl hsl HC HA7 HM7
            go_wp2_with fail
            go_roundw
            case rel => exact ⟨ac, mid, le, _, ap, Lf, rfl, rfl, rfl, rfl, rfl, by omega, by omega, by omega, hzl, by omega, HQ.out.1, HAll.out, HA8.out, HM8.out⟩
            case measure => simp [intOf]; omega
theorem pdq_any (N : Nat) : PdqP N := Nat.strongRecOn N fun N ih => pdq_step N ih
end Go.Proofs.Ytffianjbljgnaaa

/-! ### PdqZ -/
namespace Go.Proofs.Ytffianjbljgnaaa
set_option linter.unusedVariables false
set_option linter.unusedSimpArgs false
open Go.RowKit
set_option maxHeartbeats 1000000 in
theorem sortA_any (g : Nat) (D : List Nat) (rest : List Value) (cap : Nat) (hl : D.length ≤ 1000000) (hcap : D.length ≤ cap) (w : World) (h : Blk w g (u64s D ++ rest) 29) :
    Calls Try.prog 60 #[.slice (some ⟨g, 0, none⟩) D.length cap] w fun e w' => e = .returned (.tuple #[]) ∧ ∃ D' : List Nat, D'.Perm D ∧ D'.Pairwise (fun a b => a ≤ b) ∧ Blk w' g (u64s D' ++ rest) 29 ∧ Mod [g] w w' := by
  have hbl : Sort.bitsLen D.length ≤ 62 := (Sort.bitsLen_le_iff _ 62).2 (by omega)
  have hP := pdq_any (D.length - 0) g D.toArray rest cap 0 D.length (Sort.bitsLen D.length) rfl (by omega) (by simp) (by simpa using hcap) (by simpa using hl) (by omega) (Or.inl rfl) w (by simpa [ArrAt] using h)
  have hsz : D.toArray.size = D.length := by simp
  rw [hsz] at hP
  rw [show ((0 : Nat) : Int) = 0 from rfl] at hP
  have HP := Lib.hid hP
  clear hP
  have hwc : IntKind.u64.wrap (D.length : Int) = (D.length : Int) := IntWalk.u64_in _ (by omega)
  go_enter Try.func60, Try.ntmps60
  go_wp2_with fail
  refine (len_any D.length (by omega) w).mono ?_
  rintro e w1 ⟨rfl, rfl⟩
  go_wp2_with fail
  refine HP.out.mono ?_
  rintro e w2 ⟨d', rfl, hp, hs, hA, hm⟩
  have HE := Lib.hid (show ∃ D' : List Nat, D'.Perm D ∧ D'.Pairwise (fun a b => a ≤ b) ∧ Blk w2 g (u64s D' ++ rest) 29 ∧ Mod [g] w w2 from by
    have hl' : d'.size = D.length := by rw [hp.1, hsz]
    refine ⟨d'.toList, ?_, ?_, hA, hm⟩
    · have h3 := hp.2.2
      have e1 : d'.extract 0 D.length = d' := by rw [← hl']; exact Array.extract_size
      have e2 : D.toArray.extract 0 D.length = D.toArray := by rw [← hsz]; exact Array.extract_size
      rw [e1, e2] at h3
      exact h3
    · rw [List.pairwise_iff_getElem]
      intro i j hi hj hij
      have h4 := hs i j (by omega) hij (by simpa [hl'] using hj)
      rw [getElem!_pos d' j (by simpa using hj), getElem!_pos d' i (by simpa using hi)] at h4
      simp only [below64, decide_eq_false_iff_not] at h4
      simp only [Array.getElem_toList]
      omega)
  clear hp hs hA hm HP
  go_wp2_with fail
  go_end0
  exact ⟨rfl, HE.out⟩
end Go.Proofs.Ytffianjbljgnaaa

/-! ### SortU -/
namespace Go.Proofs.Ytffianjbljgnaaa
set_option linter.unusedVariables false
set_option linter.unusedSimpArgs false
open Go.RowKit Go.Maps Go.Sort Go.Shelf Go.Proofs

/-- How many numbers are sorted. -/
def BoundU (n : Nat) : Prop := n ≤ 1000
theorem BoundU.le {n : Nat} (h : BoundU n) : n ≤ 1000000 := by unfold BoundU at h; omega

/-- What a sort of numbers ends with. -/
def SortedU (g : Nat) (D : List Nat) (rest : List Value) (w : World) (e : Ending) (w' : World) : Prop :=
  e = .returned (.tuple #[]) ∧ ∃ D' : List Nat, D'.Perm D ∧ D'.Pairwise (fun a b => a ≤ b) ∧ Blk w' g (u64s D' ++ rest) 29 ∧ Mod [g] w w'
theorem sortU_any (g : Nat) (D : List Nat) (rest : List Value) (cap : Nat) (hl : BoundU D.length) (hcap : D.length ≤ cap) (w : World) (h : Blk w g (u64s D ++ rest) 29) :
    Calls Try.prog 60 #[.slice (some ⟨g, 0, none⟩) D.length cap] w (SortedU g D rest w) :=
  (sortA_any g D rest cap (by have := hl.le; omega) hcap w h).mono fun e w' ⟨he, D', h1, h2, h3, h4⟩ => ⟨he, D', h1, h2, h3, h4⟩
set_option maxHeartbeats 1000000 in
theorem insU_none (w : World) : Calls Try.prog 78 #[.slice none 0 0, .int .i64 0, .int .i64 0] w fun e w' => e = .returned (.tuple #[]) ∧ w = w' := by
  go_enter Try.func78, Try.ntmps78
  go_wp2_with fail
  go_loopw [6] (fun s6 wr => w = wr ∧ s6 = .int .i64 1) (fun _ _ => 0)
  case atStart => exact ⟨rfl, rfl⟩
  case round =>
    obtain ⟨rfl, rfl⟩ := hrel
    go_wp2_with fail
    go_end0
    exact ⟨rfl, rfl⟩
set_option maxHeartbeats 1000000 in
theorem pdqU_none (z : Int) (w : World) : Calls Try.prog 70 #[.slice none 0 0, .int .i64 0, .int .i64 0, .int .i64 z] w fun e w' => e = .returned (.tuple #[]) ∧ w = w' := by
  go_enter Try.func70, Try.ntmps70
  go_wp2_with fail
  go_loopw [1, 2, 3] (fun s1 s2 s3 wr => w = wr ∧ s1 = .int .i64 0 ∧ s2 = .int .i64 0 ∧ s3 = .int .i64 z) (fun _ _ _ _ => 0)
  case atStart => exact ⟨rfl, rfl, rfl, rfl⟩
  case round =>
    obtain ⟨rfl, rfl, rfl, rfl⟩ := hrel
    go_wp2_with fail
    refine (insU_none w).mono ?_
    rintro e w1 ⟨rfl, rfl⟩
    go_wp2_with fail
    refine bodyPost_ret (results_none rfl _ _ _) rfl ?_
    exact ⟨rfl, rfl⟩
set_option maxHeartbeats 1000000 in
theorem sortU_none (w : World) : Calls Try.prog 60 #[.slice none 0 0] w fun e w' => e = .returned (.tuple #[]) ∧ w = w' := by
  have hl := len_small 0 (by omega) w
  rw [show ((0 : Nat) : Int) = 0 from rfl] at hl
  go_enter Try.func60, Try.ntmps60
  go_wp2_with fail
  refine hl.mono ?_
  rintro e w1 ⟨⟨z, rfl⟩, rfl⟩
  go_wp2_with fail
  refine (pdqU_none z w).mono ?_
  rintro e w1 ⟨rfl, rfl⟩
  go_wp2_with fail
  go_end0
  exact ⟨rfl, rfl⟩

/-- A slice that reads as a row of cells, k to an element. -/
structure RowsAt (w : World) (a : Option Addr) (n c k : Nat) (cells : List Value) : Prop where
  len : cells.length = n * k
  cap : n ≤ c
  max : n ≤ 9223372036854775807
  at_ : 0 < n → ∃ g o, a = some ⟨g, o, none⟩ ∧ g < w.heap.size ∧ ∀ i v, cells[i]? = some v → w.cell? ⟨g, o + i, none⟩ = some v
theorem RowsAt.nil (w : World) (k : Nat) : RowsAt w none 0 0 k [] := ⟨by simp, Nat.le_refl _, by omega, fun h => absurd h (Nat.lt_irrefl 0)⟩
theorem RowsAt.on {w w' : World} {a : Option Addr} {n c k : Nat} {cells : List Value} (h : RowsAt w a n c k cells) (hb : Below w.heap.size w w') : RowsAt w' a n c k cells :=
  ⟨h.len, h.cap, h.max, fun hn => by
    obtain ⟨g, o, e, hg, hc⟩ := h.at_ hn
    exact ⟨g, o, e, Nat.lt_of_lt_of_le hg hb.size, fun i v hv => by rw [hb.cell (p := ⟨g, o + i, none⟩) hg]; exact hc i v hv⟩⟩
/-- Where a slice lies: not in these blocks. -/
def Off (S : List Nat) (a : Option Addr) : Prop := ∀ g o, a = some ⟨g, o, none⟩ → g ∉ S
theorem RowsAt.mod {S : List Nat} {w w' : World} {a : Option Addr} {n c k : Nat} {cells : List Value} (h : RowsAt w a n c k cells) (hm : Mod S w w') (hS : Off S a) : RowsAt w' a n c k cells :=
  ⟨h.len, h.cap, h.max, fun hn => by
    obtain ⟨g, o, e, hg, hc⟩ := h.at_ hn
    exact ⟨g, o, e, Nat.lt_of_lt_of_le hg hm.size, fun i v hv => by rw [hm.cell hg (hS g o e)]; exact hc i v hv⟩⟩
theorem RowsAt.of_blk {w : World} {g c k n : Nat} {cells rest : List Value} {T : TypeId} (h : Blk w g (cells ++ rest) T) (hl : cells.length = n * k) (hc : n ≤ c) (hm : n ≤ 9223372036854775807) : RowsAt w (some ⟨g, 0, none⟩) n c k cells :=
  ⟨hl, hc, hm, fun _ => ⟨g, 0, rfl, h.lt, fun i v hv => by
    rw [Nat.zero_add, h.cell, List.getElem?_append_left (List.getElem?_eq_some_iff.1 hv).1]; exact hv⟩⟩

theorem owns_blk {w : World} {base : Nat} {e : TypeId} {size : Nat} {v : Value} {n : Nat} {xs : List Value} (h : w.ownsRow base e size v n xs) (hn : n ≠ 0) : ∃ g cap rest, v = .slice (some ⟨g, 0, none⟩) n cap ∧ base ≤ g ∧ n ≤ cap ∧ cap ≤ maxLen ∧ Blk w g (xs ++ rest) e := by
  obtain ⟨h1, h2⟩ := h
  rcases h2 with ⟨_, h0⟩ | ⟨g, cap, cur, rfl, hb, hg, hc1, hc2, hs, ht⟩
  · exact absurd h0 hn
  · refine ⟨g, cap, cur.toList.drop (n * size), rfl, hb, hc1, hc2, ?_⟩
    unfold Blk
    rw [hg, ← ht, List.take_append_drop]

theorem allU_length {w : World} {b n : Nat} {D : DataW Value} (hown : w.ownsMap Try.prog 29 heldE b n D) {ss : List Nat} (hA : AllU D ss) : ss.length = Maps.size D := by
  obtain ⟨es, hD, hpw, _⟩ := hown.entries (int_keyed Try.underlying29)
  obtain ⟨es', hD', hko⟩ := hown.keysOf
  obtain rfl : es = es' := by rw [hD] at hD'; simpa using hD'
  subst hD
  have hk : ∀ p ∈ es, ∃ x : Nat, p.1 = litU x := fun p hp => by
    obtain ⟨v, hv⟩ := hko p hp
    obtain ⟨x, _, hx, _⟩ := keyOf_u64 hv
    exact ⟨x, hx⟩
  have hperm : (ss.map litU).Perm (es.map fun p => p.1) := by
    refine (List.perm_ext_iff_of_nodup ?_ ?_).2 fun x => ?_
    · exact List.pairwise_map.2 (hA.1.imp (fun hne e => hne (by injection e with _ e; omega)))
    · exact List.pairwise_map.2 hpw
    · rw [List.mem_map, List.mem_map]
      constructor
      · rintro ⟨y, hy, rfl⟩
        have := (hA.2 y).1 hy
        rw [has_eq, List.any_eq_true] at this
        obtain ⟨p, hp, hs⟩ := this
        obtain ⟨z, hz⟩ := hk p hp
        refine ⟨p, hp, ?_⟩
        rw [hz] at hs ⊢
        have : (z : Int) = (y : Int) := by simpa [Lit.sameKey, litU] using hs
        unfold litU; rw [this]
      · rintro ⟨p, hp, rfl⟩
        obtain ⟨z, hz⟩ := hk p hp
        refine ⟨z, (hA.2 z).2 ?_, hz.symm⟩
        rw [has_eq, List.any_eq_true]
        exact ⟨p, hp, by rw [hz]; simp [Lit.sameKey, litU]⟩
  have := hperm.length_eq
  simpa [Maps.size] using this

set_option maxRecDepth 100000 in
set_option maxHeartbeats 2000000 in
theorem sortedU_any (Bm b n : Nat) (f : Nat → Option Value) (w : World) (hBm : Bm < w.heap.size) (hm : w.cell? ⟨Bm, 0, none⟩ = some (.map (some b))) (h : VMap numKey w b n f) (hn : BoundU n) :
    Calls Try.prog 36 #[.func (.func 61) #[] #[.pointer (some ⟨Bm, 0, none⟩)]] w fun e w' => ∃ (a : Option Addr) (c : Nat) (L : List Nat),
      e = .returned (.slice a L.length c) ∧ RowsAt w' a L.length c 1 (u64s L) ∧ L.Pairwise (fun x y => x < y) ∧ (∀ x, x ∈ L ↔ x < 18446744073709551616 ∧ (f x).isSome = true) ∧ L.length = n ∧ (∀ g o, a = some ⟨g, o, none⟩ → w.heap.size ≤ g) ∧ Below w.heap.size w w' := by
  obtain ⟨D, hown, hT, hsz, hf⟩ := h
  have hn' : n ≤ 1000000 := hn.le
  have hseq : SeqGives Fence.wide 4 Try.prog 61 #[.pointer (some ⟨Bm, 0, none⟩)] encU (AllU D) (Maps.size D) w := keysU_gives Fence.wide 4 trivial rfl (by omega) Bm b _ D w hBm hm hown
  have hC := (callsIn_wide (n := 6)).1 (collectU_in Fence.wide 6 trivial trivial rfl (by omega) 61 #[.pointer (some ⟨Bm, 0, none⟩)] trivial (enters_of Try.func61 (by kernel_rfl) rfl) _ _ (by rw [hsz]; unfold maxLen; omega) (by rw [hsz]; omega) w hseq)
  have HC := Lib.hid hC
  have HFin := Lib.hid (show ∀ ss : List Nat, AllU D ss → ∀ L : List Nat, L.Perm ss → L.Pairwise (fun a b => a ≤ b) → L.Pairwise (fun x y => x < y) ∧ (∀ x, x ∈ L ↔ x < 18446744073709551616 ∧ (f x).isSome = true) ∧ L.length = n from fun ss hA L hp hs => by
    have hnd : L.Nodup := hp.nodup_iff.2 hA.1
    refine ⟨?_, fun x => ?_, ?_⟩
    · exact (hs.and hnd).imp (fun ⟨h1, h2⟩ => by omega)
    · rw [hp.mem_iff, hA.2 x]
      constructor
      · intro hh
        have hx : x < 18446744073709551616 := by
          obtain ⟨es, hD, hko⟩ := hown.keysOf
          subst hD
          rw [has_eq, List.any_eq_true] at hh
          obtain ⟨p, hp', hsk⟩ := hh
          obtain ⟨v, hv⟩ := hko p hp'
          obtain ⟨y, _, hy, hy2⟩ := keyOf_u64 hv
          rw [hy] at hsk
          have : (y : Int) = (x : Int) := by simpa [Lit.sameKey, litU] using hsk
          omega
        exact ⟨hx, by rw [← (hf x hx).1]; exact hh⟩
      · rintro ⟨hx, hi⟩
        show has D (numKey.lit x) = true
        rw [(hf x hx).1]; exact hi
    · rw [hp.length_eq, ← hsz]
      exact allU_length hown hA)
  clear hC hseq hown hT hsz hf hm
  go_enter Try.func36, Try.ntmps36
  go_wp2_with fail
  refine HC.out.mono ?_
  rintro e w1 ⟨v, ss, rfl, hA, hrow, hnil, hb⟩
  by_cases hss : ss = []
  · subst hss
    obtain rfl := hnil.2 rfl
    go_wp2_with fail
    refine (sortU_none w1).mono ?_
    rintro e w2 ⟨rfl, rfl⟩
    go_wp2_with fail
    go_ret
    obtain ⟨f1, f2, f3⟩ := HFin.out [] hA [] (List.Perm.refl _) List.Pairwise.nil
    exact ⟨none, 0, [], rfl, RowsAt.nil _ _, f1, f2, f3, (fun g o e => by cases e), hb⟩
  · have hpos : ss.length ≠ 0 := fun e => hss (List.eq_nil_of_length_eq_zero e)
    obtain ⟨g, cap, rest, rfl, hg, hc1, hc2, hblk⟩ := owns_blk hrow hpos
    have HS := Lib.hid (sortU_any g ss rest cap (by rw [show ss.length = n from (HFin.out ss hA (isort below64 ss) (isort_perm _ _) (isort_asc _)).2.2 ▸ (isort_length _ _).symm]; exact hn) hc1 w1 hblk)
    clear hrow hblk hpos hnil
    go_wp2_with fail
    refine HS.out.mono ?_
    rintro e w2 ⟨rfl, D', hp, hs, hb2, hm2⟩
    go_wp2_with fail
    go_ret
    obtain ⟨f1, f2, f3⟩ := HFin.out ss hA D' hp hs
    have hl2 : D'.length = ss.length := hp.length_eq
    exact ⟨some ⟨g, 0, none⟩, cap, D', by simp [hl2], RowsAt.of_blk hb2 (by simp [u64s]) (by omega) (by unfold maxLen at hc2; omega), f1, f2, f3, (fun g' o e => by cases e; exact hg), hb.trans (hm2.below (fun x hx => by simp at hx; omega) hb.size)⟩
end Go.Proofs.Ytffianjbljgnaaa
