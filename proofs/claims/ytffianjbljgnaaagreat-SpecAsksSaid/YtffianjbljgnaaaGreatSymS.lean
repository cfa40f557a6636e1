/-
  swapRangeCmpFunc and rotateCmpFunc at ints: two parts change places. Condition: the row's length is one that a machine has. (Printed by gen_sym.py.)
-/
import Derived.Test.YtffianjbljgnaaaGreatSymA
import Derived.Test.YtffianjbljgnaaaGreatSettleF
namespace Go.Proofs.YtffianjbljgnaaaGreat
set_option linter.unusedVariables false
set_option linter.unusedSimpArgs false
open Go.RowKit
/-- Two parts of the row have changed places. -/
def SwapEnd (g : Nat) (n : Nat) (D : List Nat) (rest : List Value) (w : World) (e : Ending) (w' : World) : Prop := e = .returned (.tuple #[]) ∧ ∃ d' : Array Nat, d'.toList = D ∧ d'.size = n ∧ ArrI w' g d' rest ∧ Mod [g] w w'
set_option maxRecDepth 100000 in
set_option maxHeartbeats 4000000 in
theorem swapRange_any (g : Nat) (d : Array Nat) (rest : List Value) (cap a b n : Nat) (P X Y Z Q : List Nat) (hd : d.toList = P ++ (X ++ (Y ++ (Z ++ Q)))) (ha : a = P.length) (hX : X.length = n) (hZ : Z.length = n) (hb : b = P.length + X.length + Y.length) (cv : Value) (hcap : d.size ≤ cap) (hsz : d.size ≤ 1000000) (w : World) (h : ArrI w g d rest) :
    Calls Tryz.prog 91 #[.slice (some ⟨g, 0, none⟩) d.size cap, .int .i64 a, .int .i64 b, .int .i64 n, cv] w (SwapEnd g d.size (P ++ (Z ++ (Y ++ (X ++ Q)))) rest w) := by
  have hds : d.size = P.length + (n + (Y.length + (n + Q.length))) := by rw [← Array.length_toList, hd]; simp [hX, hZ]
  have hab : a + n ≤ b := by omega
  have hbn : b + n ≤ d.size := by omega
  have HFin := Lib.hid (show ∀ d' : Array Nat, SwapR d d' a b n → d'.toList = P ++ (Z ++ (Y ++ (X ++ Q))) from fun d' hs => hs.lists hd ha hX hZ hb)
  obtain ⟨N, hN⟩ : ∃ N, d.size = N := ⟨_, rfl⟩
  rw [hN] at hcap hsz hbn ⊢
  have HD := Lib.hid h
  clear h hd ha hX hZ hb hds
  go_enter Tryz.func91, Tryz.ntmps91
  go_wp2_with fail
  go_loopw [10] (fun s10 wr => ∃ (i : Nat) (d' : Array Nat), s10 = .int .i64 i ∧ i ≤ n ∧ SwapR d d' a b i ∧ ArrI wr g d' rest ∧ Mod [g] w wr) (fun s10 _ => n - (intOf s10).toNat)
  case atStart => exact ⟨0, d, rfl, Nat.zero_le _, SwapR.start d a b, HD.out, Mod.refl _ _⟩
  case round =>
    obtain ⟨i, d', rfl, hi, hs, hA, hm⟩ := hrel
    have hszd : d'.size = N := by rw [hs.size, hN]
    have HA := Lib.hid hA
    have HM := Lib.hid hm
    have HS := Lib.hid hs
    clear hA hm hs
    by_cases hlt : i < n
    · have hil : (i : Int) < (n : Int) := by omega
      have HSt := Lib.hid (HS.out.step (n := n) hab hlt (by rw [hN]; exact hbn))
      obtain ⟨I, hI⟩ : ∃ I, a + i = I := ⟨_, rfl⟩
      obtain ⟨J, hJ⟩ : ∃ J, b + i = J := ⟨_, rfl⟩
      rw [hI, hJ] at HSt
      have hIi : (a : Int) + (i : Int) = (I : Int) := by omega
      have hJi : (b : Int) + (i : Int) = (J : Int) := by omega
      have hI2 : I < d'.size := by omega
      have hJ2 : J < d'.size := by omega
      have hwI : IntKind.i64.wrap (I : Int) = (I : Int) := IntWalk.i64_in _ (by omega)
      have hwJ : IntKind.i64.wrap (J : Int) = (J : Int) := IntWalk.i64_in _ (by omega)
      have hIn : (I : Int) < (N : Int) := by omega
      have hJn : (J : Int) < (N : Int) := by omega
      clear hI hJ
      go_upto_region 3 with fail
      have HG := Lib.hid (show ∀ w', Below wr.heap.size wr w' → (w'.cell? ⟨g, I, none⟩ = some (.int .i64 (d'[I]! : Nat)) ∧ w'.cell? ⟨g, J, none⟩ = some (.int .i64 (d'[J]! : Nat))) from
        fun w' hb => ⟨(HA.out.on hb).get (by omega), (HA.out.on hb).get (by omega)⟩)
      obtain ⟨vI, hvI⟩ : ∃ x, d'[I]! = x := ⟨_, rfl⟩
      obtain ⟨vJ, hvJ⟩ : ∃ x, d'[J]! = x := ⟨_, rfl⟩
      rw [hvI, hvJ] at HG
      refine wp_region_float2 [4, 5, 6, 7] [0, 1, 2, 3, 8, 9, 10, 11, 12, 13, 14, 15, 16, 17, 18, 19] [20, 21, 22, 23] [20, 21, 22, 23] (Below wr.heap.size wr) (by kernel_rfl) (by kernel_rfl) (by kernel_rfl) (by kernel_rfl) (fun c a d v w h => by cases d <;> exact h) (below_drew (Below.refl _ _)) ?_
      have hS : Below wr.heap.size wr { wr with drawn := wr.drawn + 1 } := below_drew (Below.refl _ _)
      generalize ({ wr with drawn := wr.drawn + 1 } : World) = w3 at *
      simp only [pick, List.map_cons, List.map_nil, List.getD_cons_zero, List.getD_cons_succ]
      repeat (
        refine takes_val (v := ?_) ?_ (fun w' hS => ?_) ?_
        rotate_left
        · rfl
        · go_simp
          with_reducible rfl
        simp only [Act.put, List.setIfInBounds_toArray, List.set_cons_zero, List.set_cons_succ])
      refine takes_nil ?_
      repeat (
        refine takes_val (v := ?_) ?_ (fun w' hS => ?_) ?_
        rotate_left
        · rfl
        · obtain ⟨k0, k1⟩ := HG.out w' hS
          go_simp
          with_reducible rfl
        simp only [Act.put, List.setIfInBounds_toArray, List.set_cons_zero, List.set_cons_succ])
      refine takes_nil ?_
      obtain ⟨k0, k1⟩ := HG.out w3 hS
      have hA3 := HA.out.on hS
      have hM3 := HM.out.thenBelow hS
      have z0 := Blk.free hA3 I
      have hAx := hA3.set (i := I) (by omega) vJ
      have z2 := Blk.free hAx J
      have z3 := hAx.get (i := J) (by simp; omega)
      have hA4 : ArrI ((w3.setCell ⟨g, I, none⟩ (.int .i64 (vJ : Nat))).setCell ⟨g, J, none⟩ (.int .i64 (vI : Nat))) g (Sort.swp d' I J) rest := by
        have := hA3.swap (i := I) (j := J) (by omega) (by omega)
        rw [hvI, hvJ] at this
        exact this
      have hM4 : Mod [g] w ((w3.setCell ⟨g, I, none⟩ (.int .i64 (vJ : Nat))).setCell ⟨g, J, none⟩ (.int .i64 (vI : Nat))) := (hM3.setCell _ _ (.inl (by simp))).setCell _ _ (.inl (by simp))
      clear hAx hA3 hM3
      generalize hz3 : ((d'.setIfInBounds I vJ)[J]! : Nat) = x3 at z3
      clear hz3 hvI hvJ
      refine seqW_step (by rfl) (fun K hK => ?_)
      go_simp
      refine hK.out _ _ (.inl (by rfl)) ?_
      clear hK K
      refine seqW_step (by rfl) (fun K hK => ?_)
      go_simp
      refine hK.out _ _ (.inl (by rfl)) ?_
      clear hK K
      refine seqW_step (by rfl) (fun K hK => ?_)
      go_simp
      refine hK.out _ _ (.inl (by rfl)) ?_
      clear hK K
      refine seqW_step (by rfl) (fun K hK => ?_)
      go_simp
      refine hK.out _ _ (.inl (by rfl)) (seqW_nil ?_)
      clear hK K HG hS k0 k1 z0 z2 z3
      generalize (w3.setCell ⟨g, I, none⟩ (.int .i64 (vJ : Nat))).setCell ⟨g, J, none⟩ (.int .i64 (vI : Nat)) = w4 at *
      go_wp2_with fail
      go_roundw
      case rel => exact ⟨i + 1, Sort.swp d' I J, by go_num, by omega, HSt.out, hA4, hM4⟩
      case measure => simp [intOf]; omega
    · have hge : ¬ (i : Int) < (n : Int) := by omega
      have hin : i = n := by omega
      have HE := Lib.hid (show SwapEnd g N (P ++ (Z ++ (Y ++ (X ++ Q)))) rest w (.returned (.tuple #[])) wr from ⟨rfl, d', HFin.out d' (by rw [← hin]; exact HS.out), hszd, HA.out, HM.out⟩)
      go_wp2_with fail
      go_end0
      exact HE.out
set_option maxRecDepth 100000 in
set_option maxHeartbeats 4000000 in
theorem rotate_any (g : Nat) (d : Array Nat) (rest : List Value) (cap a m b : Nat) (P X Y Q : List Nat) (hd : d.toList = P ++ (X ++ (Y ++ Q))) (ha : a = P.length) (hm : m = P.length + X.length) (hb : b = P.length + X.length + Y.length) (hp1 : 0 < X.length) (hp2 : 0 < Y.length) (cv : Value) (hcap : d.size ≤ cap) (hsz : d.size ≤ 1000000) (w : World) (h : ArrI w g d rest) :
    Calls Tryz.prog 85 #[.slice (some ⟨g, 0, none⟩) d.size cap, .int .i64 a, .int .i64 m, .int .i64 b, cv] w (SwapEnd g d.size (P ++ (Y ++ (X ++ Q))) rest w) := by
  have hds : d.size = P.length + (X.length + (Y.length + Q.length)) := by rw [← Array.length_toList, hd]; simp
  obtain ⟨i0, hi0⟩ : ∃ i, X.length = i := ⟨_, rfl⟩
  obtain ⟨j0, hj0⟩ : ∃ j, Y.length = j := ⟨_, rfl⟩
  have hR := RotAt.start hd hm
  rw [hi0, hj0] at hR
  have hi0i : (m : Int) - (a : Int) = (i0 : Int) := by omega
  have hj0i : (b : Int) - (m : Int) = (j0 : Int) := by omega
  have hwi : IntKind.i64.wrap (i0 : Int) = (i0 : Int) := IntWalk.i64_in _ (by omega)
  have hwj : IntKind.i64.wrap (j0 : Int) = (j0 : Int) := IntWalk.i64_in _ (by omega)
  have hmN : m + j0 ≤ d.size := by omega
  have hi0N : i0 ≤ d.size := by omega
  obtain ⟨N, hN⟩ : ∃ N, d.size = N := ⟨_, rfl⟩
  rw [hN] at hcap hsz hmN hi0N ⊢
  have hij0 : i0 = j0 ∨ (0 < i0 ∧ 0 < j0) := .inr (by omega)
  have HD := Lib.hid h
  have HR := Lib.hid hR
  clear h hd hR hds hm hb ha hi0 hj0 hp1 hp2
  go_enter Tryz.func85, Tryz.ntmps85
  go_wp2_with fail
  go_loopw [10, 11] (fun s10 s11 wr => ∃ (i j : Nat) (d' : Array Nat), s10 = .int .i64 i ∧ s11 = .int .i64 j ∧ i ≤ N ∧ m + j ≤ N ∧ (i = j ∨ (0 < i ∧ 0 < j)) ∧ d'.size = N ∧ RotAt d' P X Y Q m i j ∧ ArrI wr g d' rest ∧ Mod [g] w wr) (fun s10 s11 _ => (intOf s10).toNat + (intOf s11).toNat)
  case atStart => exact ⟨i0, j0, d, by first | rfl | go_num | rw [hi0i], by first | rfl | go_num | rw [hj0i], hi0N, hmN, hij0, hN, HR.out, HD.out, Mod.refl _ _⟩
  case round =>
    obtain ⟨i, j, d', rfl, rfl, hi, hmj, hij0, hszd, hr, hA, hm⟩ := hrel
    have HA := Lib.hid hA
    have HM := Lib.hid hm
    clear hA hm
    by_cases heq : i = j
    · subst heq
      have hne : ((i : Int) != (i : Int)) = false := by simp
      obtain ⟨P', X1, Z, R, e1, e2, e2', e3, e4, e5, e6⟩ := hr.same
      obtain ⟨A, hAa⟩ : ∃ A, m - i = A := ⟨_, rfl⟩
      have hAi : (m : Int) - (i : Int) = (A : Int) := by omega
      have hwA : IntKind.i64.wrap (A : Int) = (A : Int) := IntWalk.i64_in _ (by omega)
      have HC := Lib.hid (swapRange_any g d' rest cap A m i P' X1 [] Z R e1 (by omega) e3 e4 (by simp; omega) cv (by omega) (by omega) wr HA.out)
      rw [hszd] at HC
      have HE6 := Lib.hid e6
      clear hr e1 e2 e3 e4 e5 e6
      go_wp2_with fail
      refine HC.out.mono ?_
      rintro e w2 ⟨rfl, d2, h1, h2, h3, h4⟩
      have HE := Lib.hid (show SwapEnd g N (P ++ (Y ++ (X ++ Q))) rest w (.returned (.tuple #[])) w2 from ⟨rfl, d2, HE6.out d2 h1, h2, h3, HM.out.trans h4⟩)
      clear h1 h2 h3 h4 HC
      go_wp2_with fail
      go_end0
      exact HE.out
    · have hne : ((i : Int) != (j : Int)) = true := by simp; omega
      by_cases hgt : j < i
      · have hgti : (j : Int) < (i : Int) := by omega
        have hgti' : (i : Int) > (j : Int) := by omega
        obtain ⟨P', X1, Y1, Z, R, e1, e2, e2', e3, e4, e5, e6⟩ := hr.big hgt
        obtain ⟨A, hAa⟩ : ∃ A, m - i = A := ⟨_, rfl⟩
        have hAi : (m : Int) - (i : Int) = (A : Int) := by omega
        have hwA : IntKind.i64.wrap (A : Int) = (A : Int) := IntWalk.i64_in _ (by omega)
        have HC := Lib.hid (swapRange_any g d' rest cap A m j P' X1 Y1 Z R e1 (by omega) e3 e4 (by omega) cv (by omega) (by omega) wr HA.out)
        rw [hszd] at HC
        have HE6 := Lib.hid e6
        have hij : (i : Int) - (j : Int) = ((i - j : Nat) : Int) := by omega
        clear hr e1 e2 e3 e4 e5 e6
        go_wp2_with fail
        refine HC.out.mono ?_
        rintro e w2 ⟨rfl, d2, h1, h2, h3, h4⟩
        have HR2 := Lib.hid (HE6.out d2 h1)
        have HA2 := Lib.hid h3
        have HM2 := Lib.hid (HM.out.trans h4)
        clear h1 h3 h4 HC HE6
        go_wp2_with fail
        go_roundw
        case rel => exact ⟨i - j, j, d2, by first | go_num | (rw [hij]), rfl, by omega, by omega, .inr (by omega), h2, HR2.out, HA2.out, HM2.out⟩
        case measure => simp [intOf]; omega
      · have hgti : ¬ (j : Int) < (i : Int) := by omega
        have hgti' : ¬ (i : Int) > (j : Int) := by omega
        obtain ⟨P', X1, Y1, Z, R, e1, e2, e2', e3, e4, e5, e6⟩ := hr.small (by omega)
        obtain ⟨A, hAa⟩ : ∃ A, m - i = A := ⟨_, rfl⟩
        obtain ⟨B, hBb⟩ : ∃ B, m + j - i = B := ⟨_, rfl⟩
        have hAi : (m : Int) - (i : Int) = (A : Int) := by omega
        have hBi : (m : Int) + (j : Int) - (i : Int) = (B : Int) := by omega
        have hwA : IntKind.i64.wrap (A : Int) = (A : Int) := IntWalk.i64_in _ (by omega)
        have hwM : IntKind.i64.wrap ((m : Int) + (j : Int)) = (m : Int) + (j : Int) := IntWalk.i64_in _ (by omega)
        have hwB : IntKind.i64.wrap (B : Int) = (B : Int) := IntWalk.i64_in _ (by omega)
        have HC := Lib.hid (swapRange_any g d' rest cap A B i P' X1 Y1 Z R e1 (by omega) e3 e4 (by omega) cv (by omega) (by omega) wr HA.out)
        rw [hszd] at HC
        have HE6 := Lib.hid e6
        have hij : (j : Int) - (i : Int) = ((j - i : Nat) : Int) := by omega
        clear hr e1 e2 e3 e4 e5 e6
        go_wp2_with fail
        refine HC.out.mono ?_
        rintro e w2 ⟨rfl, d2, h1, h2, h3, h4⟩
        have HR2 := Lib.hid (HE6.out d2 h1)
        have HA2 := Lib.hid h3
        have HM2 := Lib.hid (HM.out.trans h4)
        clear h1 h3 h4 HC HE6
        go_wp2_with fail
        go_roundw
        case rel => exact ⟨i, j - i, d2, rfl, by first | go_num | (rw [hij]), by omega, by omega, .inr (by omega), h2, HR2.out, HA2.out, HM2.out⟩
        case measure => simp [intOf]; omega
end Go.Proofs.YtffianjbljgnaaaGreat
