/-
  The library's insertion sort: in plain Lean, and at numbers without a sign. No condition.
-/
import Derived.Test.YtffianjbljgnaaaRows
import Derived.Test.YtffianjbljgnaaaMem
import Derived.Test.YtffianjbljgnaaaSettleF
import Derived.Lib.Hide
import Derived.WalkKit
import Derived.IntWalk
import Derived.Deep.DeepCutAuto
import Derived.Deep.CutBlock
namespace Go.Proofs.Ytffianjbljgnaaa
set_option linter.unusedVariables false
set_option linter.unusedSimpArgs false
open Go.RowKit

section
variable {α : Type}
/-- A thing is put among others, the last of which stand first: ahead of the first that is not greater. -/
def insRev (lt : α → α → Bool) (x : α) : List α → List α
  | [] => [x]
  | y :: t => if lt x y then y :: insRev lt x t else x :: y :: t
/-- The insertion sort. -/
def isort (lt : α → α → Bool) (d : List α) : List α := (d.foldl (fun R x => insRev lt x R) []).reverse
theorem insRev_length (lt : α → α → Bool) (x : α) (l : List α) : (insRev lt x l).length = l.length + 1 := by
  induction l with
  | nil => rfl
  | cons y t ih => unfold insRev; split <;> simp [ih]
theorem fold_length (lt : α → α → Bool) (d : List α) : ∀ R : List α, (d.foldl (fun R x => insRev lt x R) R).length = R.length + d.length := by
  induction d with
  | nil => intro R; rfl
  | cons y t ih => intro R; rw [List.foldl_cons, ih, insRev_length, List.length_cons]; omega
theorem isort_length (lt : α → α → Bool) (d : List α) : (isort lt d).length = d.length := by unfold isort; rw [List.length_reverse, fold_length]; simp
theorem get_mid (A B : List α) (y : α) : (A ++ y :: B)[A.length]? = some y := by rw [List.getElem?_append_right (Nat.le_refl _)]; simp
theorem set_mid (A B : List α) (y z : α) : (A ++ y :: B).set A.length z = A ++ z :: B := by rw [List.set_append_right _ _ (Nat.le_refl _)]; simp
end
def below64 (x y : Nat) : Bool := decide (x < y)
def u64s (l : List Nat) : List Value := l.map fun (n : Nat) => .int .u64 (n : Int)
theorem u64s_get (l : List Nat) (rest : List Value) (i n : Nat) (h : l[i]? = some n) : (u64s l ++ rest)[i]? = some (.int .u64 n) := by
  have hi := (List.getElem?_eq_some_iff.1 h).1
  rw [List.getElem?_append_left (by simp [u64s]; exact hi)]
  unfold u64s
  rw [List.getElem?_map, h]; rfl
theorem u64s_set (l : List Nat) (rest : List Value) (i n : Nat) (h : i < l.length) : (u64s l ++ rest).set i (.int .u64 n) = u64s (l.set i n) ++ rest := by
  rw [List.set_append_left _ _ (by simp [u64s]; exact h)]
  unfold u64s
  rw [List.map_set]

theorem isNaN_any (x : Nat) (w : World) : Calls Try.prog 65 #[.int .u64 x] w fun e w' => e = .returned (.bool false) ∧ w = w' := by
  go_enter Try.func65, Try.ntmps65
  go_wp2_with fail
  go_ret
  exact ⟨by simp, rfl⟩
theorem less_any (x y : Nat) (w : World) : Calls Try.prog 84 #[.int .u64 x, .int .u64 y] w fun e w' => e = .returned (.bool (below64 x y)) ∧ w = w' := by
  go_enter Try.func84, Try.ntmps84
  go_wp2_with fail
  refine (isNaN_any x w).mono ?_
  rintro e w1 ⟨rfl, rfl⟩
  by_cases h : x < y
  · have hi : ((x : Int) < (y : Int)) := by omega
    have HB := Lib.hid (show below64 x y = true by simp [below64, h])
    go_wp2_with fail
    go_ret
    exact ⟨by rw [HB.out]; rfl, rfl⟩
  · have hi : ¬ ((x : Int) < (y : Int)) := by omega
    have HB := Lib.hid (show below64 x y = false by simp [below64, h])
    go_wp2_with fail
    go_ret
    exact ⟨by rw [HB.out]; rfl, rfl⟩

theorem below_drew {B : Nat} {a w : World} (h : Below B a w) : Below B a w.drew := ⟨h.os, h.tape, h.output, h.size, h.block⟩
/-- What the insertion sort ends with: the part is sorted. -/
def InsEnds (g : Nat) (P D Q : List Nat) (rest : List Value) (w : World) (e : Ending) (w' : World) : Prop :=
  e = .returned (.tuple #[]) ∧ Blk w' g (u64s (P ++ ((isort below64 D) ++ Q)) ++ rest) 29 ∧ Mod [g] w w'
set_option maxRecDepth 10000 in
set_option maxHeartbeats 2000000 in
theorem insort_any (g : Nat) (P D Q : List Nat) (rest : List Value) (cap n A B : Nat) (hn : n = P.length + (D.length + Q.length)) (hA : A = P.length) (hB : B = P.length + D.length) (hcap : n ≤ cap) (hmax : n ≤ 4611686018427387904) (w : World) (h : Blk w g (u64s (P ++ (D ++ Q)) ++ rest) 29) :
    Calls Try.prog 78 #[.slice (some ⟨g, 0, none⟩) n cap, .int .i64 A, .int .i64 B] w (InsEnds g P D Q rest w) := by
  have hglt := h.lt
  have hA' : A ≤ P.length ∧ P.length ≤ A := by omega
  have hB' : B ≤ P.length + D.length ∧ P.length + D.length ≤ B := by omega
  have hn' : n ≤ P.length + (D.length + Q.length) ∧ P.length + (D.length + Q.length) ≤ n := by omega
  clear hA hB hn
  go_enter Try.func78, Try.ntmps78
  have hwa : IntKind.i64.wrap ((A : Int) + 1) = (A : Int) + 1 := IntWalk.i64_in _ (by omega)
  go_wp2_with fail
  go_loopw [6, 7] (fun s6 _ wr => ∃ (k : Nat) (z : Int) (R0 : List Nat), (k ≤ D.length ∨ D.length = 0) ∧ (1 ≤ k ∧ z = (A : Int) + k) ∧ s6 = .int .i64 z ∧ (D.take k).foldl (fun R x => insRev below64 x R) [] = R0 ∧ Blk wr g (u64s (P ++ (R0.reverse ++ (D.drop k ++ Q))) ++ rest) 29 ∧ Mod [g] w wr) (fun s6 _ _ => B + 1 - (intOf s6).toNat)
  case atStart =>
    refine ⟨1, _, _, ?_, ⟨Nat.le_refl _, rfl⟩, rfl, rfl, ?_, Mod.refl _ _⟩
    · cases D with
      | nil => exact .inr rfl
      | cons x t => left; simp
    · cases D with
      | nil => simpa using h
      | cons x t => simpa [insRev] using h
  case round =>
    obtain ⟨k, z, R0, hk, ⟨hk1, hz⟩, rfl, hR0, hbk, hm⟩ := hrel
    by_cases hlt : k < D.length
    · obtain ⟨x, hx⟩ : ∃ x, D[k]? = some x := ⟨_, List.getElem?_eq_getElem hlt⟩
      have hdk : D.drop k = x :: D.drop (k + 1) := by
        obtain ⟨h1, rfl⟩ := List.getElem?_eq_some_iff.1 hx
        exact List.drop_eq_getElem_cons h1
      have hR0l : R0.length = k := by rw [← hR0, fold_length]; simp; omega
      have hnext : (D.take (k + 1)).foldl (fun R x => insRev below64 x R) [] = insRev below64 x R0 := by
        rw [List.take_add_one, hx, List.foldl_append, hR0]; rfl
      rw [hdk] at hbk
      generalize hQ' : D.drop (k + 1) = Q' at *
      have HNext := Lib.hid hnext
      have HR0l := Lib.hid hR0l
      clear hx hdk hnext hR0
      obtain ⟨J, hJ⟩ : ∃ J : Nat, z = (J : Int) := ⟨A + k, by omega⟩
      subst hJ
      have hJl : (J : Int) < (B : Int) := by omega
      have hJ2 : J ≤ P.length + k ∧ P.length + k ≤ J := by omega
      have hz2 : (J : Int) ≤ (A : Int) + k ∧ (A : Int) + k ≤ J := by omega
      clear hz
      go_wp2_with fail
      go_loopw [7] (fun s7 wr => ∃ (Lr Rp : List Nat) (j : Nat), s7 = .int .i64 j ∧ (j ≤ P.length + Lr.length ∧ P.length + Lr.length ≤ j) ∧ insRev below64 x R0 = Rp ++ insRev below64 x Lr ∧ Lr.length ≤ R0.length ∧ Blk wr g (u64s (P ++ (Lr.reverse ++ (x :: (Rp.reverse ++ (Q' ++ Q))))) ++ rest) 29 ∧ Mod [g] w wr) (fun s7 _ => (intOf s7).toNat)
      case atStart => exact ⟨R0, [], J, rfl, by rw [HR0l.out]; omega, rfl, Nat.le_refl _, by simpa using hbk, hm⟩
      case round =>
        clear hbk hm
        obtain ⟨Lr, Rp, j, rfl, hj, hins, hLl, hbk, hm⟩ := hrel
        have HIns := Lib.hid hins
        clear hins
        have hwz : IntKind.i64.wrap ((J : Int) + 1) = (J : Int) + 1 := IntWalk.i64_in _ (by omega)
        cases Lr with
        | nil =>
          have hgt : ¬ ((A : Int) < (j : Int)) := by simp at hj; omega
          have HB := Lib.hid (show Blk wr g (u64s (P ++ ((insRev below64 x R0).reverse ++ (Q' ++ Q))) ++ rest) 29 by rw [HIns.out]; simpa [insRev] using hbk)
          go_upto_region 4 with fail
          refine wp_region_settleF (Below wr.heap.size wr) (by kernel_rfl) (by kernel_rfl) (by kernel_rfl) (below_drew (Below.refl _ _)) ?_
          repeat (first
            | (refine settled_not ?_ ?_
               · rfl
               simp only [Act.put, List.setIfInBounds_toArray, List.set_cons_zero, List.set_cons_succ])
            | (refine settled_val (v := ?_) ?_ (fun w' hS => ?_) ?_
               rotate_left
               · rfl
               · skip
                 go_simp
                 with_reducible rfl
               simp only [Act.put, List.setIfInBounds_toArray, List.set_cons_zero, List.set_cons_succ]))
          refine settled_nil (fun w2 hS => ?_)
          go_wp2_with fail
          go_roundw
          case rel => exact ⟨k + 1, (J : Int) + 1, _, .inl (by omega), ⟨by omega, by omega⟩, by go_num, HNext.out, by rw [hQ']; exact HB.out.on hS, hm.thenBelow hS⟩
          case measure => simp [intOf]; omega
        | cons y t =>
          have hjl : j ≤ P.length + t.length + 1 ∧ P.length + t.length + 1 ≤ j := by simp only [List.length_cons] at hj; omega
          obtain ⟨I, hI⟩ : ∃ I : Nat, I ≤ P.length + t.length ∧ P.length + t.length ≤ I := ⟨P.length + t.length, by omega⟩
          have eI : (P ++ t.reverse).length = I := by simp; omega
          have eJ : j = I + 1 := by omega
          have eX : P ++ ((y :: t).reverse ++ (x :: (Rp.reverse ++ (Q' ++ Q)))) = (P ++ t.reverse) ++ y :: x :: (Rp.reverse ++ (Q' ++ Q)) := by simp
          have hlenx : (P ++ ((y :: t).reverse ++ (x :: (Rp.reverse ++ (Q' ++ Q))))).length ≤ n ∧ j < (P ++ ((y :: t).reverse ++ (x :: (Rp.reverse ++ (Q' ++ Q))))).length := by
            have hsz : (insRev below64 x R0).length = R0.length + 1 := insRev_length _ _ _
            rw [HIns.out] at hsz
            rw [List.length_append, insRev_length] at hsz
            have h1 := HR0l.out
            have h2 : Q'.length = D.length - (k + 1) := by rw [← hQ', List.length_drop]
            simp at hsz ⊢
            omega
          have c0 : wr.cell? ⟨g, I, none⟩ = some (.int .u64 (y : Nat)) := by
            rw [hbk.cell]; refine u64s_get _ _ _ _ ?_
            rw [eX, ← eI]; exact get_mid _ _ _
          have c1 : wr.cell? ⟨g, j, none⟩ = some (.int .u64 (x : Nat)) := by
            rw [hbk.cell]; refine u64s_get _ _ _ _ ?_
            rw [eX, eJ, ← eI, List.getElem?_append_right (show (P ++ t.reverse).length ≤ (P ++ t.reverse).length + 1 by omega), Nat.add_sub_cancel_left]
            rfl
          have hgt : ((A : Int) < (j : Int)) := by omega
          have hgn : (j : Int) < (n : Int) := by omega
          have hgI : (I : Int) < (n : Int) := by omega
          have hwI : IntKind.i64.wrap ((j : Int) - 1) = (I : Int) := by rw [show (j : Int) - 1 = (I : Int) by omega]; exact IntWalk.i64_in _ (by omega)
          have HF := Lib.hid (show ∀ w', Below wr.heap.size wr w' → (w'.cell? ⟨g, I, none⟩ = some (.int .u64 (y : Nat)) ∧ w'.cell? ⟨g, j, none⟩ = some (.int .u64 (x : Nat))) from
            fun w' hb => ⟨(hb.cell (p := ⟨g, I, none⟩) hbk.lt).trans c0, (hb.cell (p := ⟨g, j, none⟩) hbk.lt).trans c1⟩)
          have HX := Lib.hid eX
          have HEI := Lib.hid eI
          have HEJ := Lib.hid eJ
          clear c0 c1 eX eI eJ
          cases hlss : below64 x y with
          | true =>
            have HL := Lib.hid hlss
            clear hlss
            have HSet := Lib.hid (show ((u64s (P ++ ((y :: t).reverse ++ (x :: (Rp.reverse ++ (Q' ++ Q))))) ++ rest).set j (.int .u64 (y : Nat))).set I (.int .u64 (x : Nat)) = u64s (P ++ (t.reverse ++ (x :: ((Rp ++ [y]).reverse ++ (Q' ++ Q))))) ++ rest by
              rw [u64s_set _ _ _ _ hlenx.2, u64s_set _ _ _ _ (by rw [List.length_set]; omega)]
              congr 2
              rw [HX.out, HEJ.out, ← HEI.out]
              have e1 := set_mid (P ++ t.reverse ++ [y]) (Rp.reverse ++ (Q' ++ Q)) x y
              have e2 := set_mid (P ++ t.reverse) (y :: (Rp.reverse ++ (Q' ++ Q))) y x
              simp only [List.append_assoc, List.cons_append, List.nil_append, List.length_append, List.length_cons, List.length_nil, List.length_reverse, List.reverse_append, List.reverse_cons, List.reverse_nil] at e1 e2 ⊢
              rw [show P.length + t.length + 1 = P.length + (t.length + 1) by omega]
              rw [e1, e2])
            go_upto_region 4 with fail
            refine wp_region_settleF (Below wr.heap.size wr) (by kernel_rfl) (by kernel_rfl) (by kernel_rfl) (below_drew (Below.refl _ _)) ?_
            repeat (first
              | (refine settled_not ?_ ?_
                 · rfl
                 simp only [Act.put, List.setIfInBounds_toArray, List.set_cons_zero, List.set_cons_succ])
              | (refine settled_val (v := ?_) ?_ (fun w' hS => ?_) ?_
                 rotate_left
                 · rfl
                 · obtain ⟨k0, k1⟩ := HF.out w' hS
                   go_simp
                   with_reducible rfl
                 simp only [Act.put, List.setIfInBounds_toArray, List.set_cons_zero, List.set_cons_succ])
              | (refine settled_call (f := 84) (v := .bool true) ?_ (fun w' hS => ?_) (fun w' hS => ((less_any x y w').mono fun e w'' ⟨h1, h2⟩ => ⟨by rw [h1, HL.out], by rw [← h2]; exact hS⟩)) ?_
                 · rfl
                 · go_simp
                 simp only [Act.put, List.setIfInBounds_toArray, List.set_cons_zero, List.set_cons_succ]))
            refine settled_nil (fun w2 hS => ?_)
            have hb2 := hbk.on hS
            have hm2 := hm.thenBelow hS
            have HG := Lib.hid (show ∀ w', Below w2.heap.size w2 w' → (w'.cell? ⟨g, I, none⟩ = some (.int .u64 (y : Nat)) ∧ w'.cell? ⟨g, j, none⟩ = some (.int .u64 (x : Nat))) from fun w' hb => HF.out w' (hS.on hb))
            go_upto_region 6 with fail
            clear hbk hm hS HF
            refine wp_region_float2 [2, 3, 4] [0, 1, 5, 6, 7, 8, 9, 10, 11, 12, 13] [14, 15, 16, 17] [14, 15, 16, 17] (Below w2.heap.size w2) (by kernel_rfl) (by kernel_rfl) (by kernel_rfl) (by kernel_rfl) (fun c a d v w h => by cases d <;> exact h) (below_drew (Below.refl _ _)) ?_
            have hS : Below w2.heap.size w2 { w2 with drawn := w2.drawn + 1 } := below_drew (Below.refl _ _)
            generalize ({ w2 with drawn := w2.drawn + 1 } : World) = w3 at *
            simp only [pick, List.map_cons, List.map_nil, List.getD_cons_zero, List.getD_cons_succ]
            repeat (
              refine takes_val (v := ?_) ?_ (fun w' hS => ?_) ?_
              rotate_left
              · rfl
              · go_simp
                with_reducible rfl
              simp only [Act.put, List.setIfInBounds_toArray, List.set_cons_zero, List.set_cons_succ])
            refine takes_nil ?_
            repeat (
              refine takes_val (v := ?_) ?_ (fun w' hS => ?_) ?_
              rotate_left
              · rfl
              · obtain ⟨k0, k1⟩ := HG.out w' hS
                go_simp
                with_reducible rfl
              simp only [Act.put, List.setIfInBounds_toArray, List.set_cons_zero, List.set_cons_succ])
            refine takes_nil ?_
            obtain ⟨k0, k1⟩ := HG.out w3 hS
            have hb3 := hb2.on hS
            have hm3 := hm2.thenBelow hS
            have z0 := hb3.free j
            have hb4 := hb3.set j (.int .u64 (y : Nat))
            have hm4 := hm3.setCell ⟨g, j, none⟩ (.int .u64 (y : Nat)) (.inl (by simp))
            have z2 := hb4.free I
            have z3 : (w3.setCell ⟨g, j, none⟩ (.int .u64 (y : Nat))).cell? ⟨g, I, none⟩ = some (.int .u64 (y : Nat)) := by
              rw [hb4.cell, List.getElem?_set_ne (by have := HEJ.out; omega), ← hb3.cell]
              exact k0
            have hb5 := hb4.set I (.int .u64 (x : Nat))
            have hm5 := hm4.setCell ⟨g, I, none⟩ (.int .u64 (x : Nat)) (.inl (by simp))
            rw [HSet.out] at hb5
            have HI2 := Lib.hid (show insRev below64 x R0 = (Rp ++ [y]) ++ insRev below64 x t by
              rw [HIns.out, List.append_assoc]
              congr 1
              show (if below64 x y = true then y :: insRev below64 x t else x :: y :: t) = _
              rw [HL.out, if_pos rfl]; rfl)
            clear hb4 hm4 hb3 hm3 hb2 hm2
            refine seqW_step (by rfl) (fun K hK => ?_)
            go_simp
            refine hK.out _ _ (.inl (by rfl)) ?_
            clear hK K
            refine seqW_step (by rfl) (fun K hK => ?_)
            go_simp
            refine hK.out _ _ (.inl (by rfl)) ?_
            clear hK K
            refine seqW_step (by rfl) (fun K hK => ?_)
            go_simp
            refine hK.out _ _ (.inl (by rfl)) ?_
            clear hK K
            refine seqW_step (by rfl) (fun K hK => ?_)
            go_simp
            refine hK.out _ _ (.inl (by rfl)) (seqW_nil ?_)
            clear hK K HG hS k0 k1 z0 z2 z3
            generalize (w3.setCell ⟨g, j, none⟩ (.int .u64 (y : Nat))).setCell ⟨g, I, none⟩ (.int .u64 (x : Nat)) = w4 at *
            go_wp2_with fail
            go_roundw
            case rel => exact ⟨t, Rp ++ [y], I, rfl, hI, HI2.out, by simp only [List.length_cons] at hLl; omega, hb5, hm5⟩
            case measure => simp [intOf]; omega
          | false =>
            have HL := Lib.hid hlss
            clear hlss
            have HB := Lib.hid (show Blk wr g (u64s (P ++ ((insRev below64 x R0).reverse ++ (Q' ++ Q))) ++ rest) 29 by rw [HIns.out]; unfold insRev; rw [HL.out]; simpa using hbk)
            go_upto_region 4 with fail
            refine wp_region_settleF (Below wr.heap.size wr) (by kernel_rfl) (by kernel_rfl) (by kernel_rfl) (below_drew (Below.refl _ _)) ?_
            repeat (first
              | (refine settled_not ?_ ?_
                 · rfl
                 simp only [Act.put, List.setIfInBounds_toArray, List.set_cons_zero, List.set_cons_succ])
              | (refine settled_val (v := ?_) ?_ (fun w' hS => ?_) ?_
                 rotate_left
                 · rfl
                 · obtain ⟨k0, k1⟩ := HF.out w' hS
                   go_simp
                   with_reducible rfl
                 simp only [Act.put, List.setIfInBounds_toArray, List.set_cons_zero, List.set_cons_succ])
              | (refine settled_call (f := 84) (v := .bool false) ?_ (fun w' hS => ?_) (fun w' hS => ((less_any x y w').mono fun e w'' ⟨h1, h2⟩ => ⟨by rw [h1, HL.out], by rw [← h2]; exact hS⟩)) ?_
                 · rfl
                 · go_simp
                 simp only [Act.put, List.setIfInBounds_toArray, List.set_cons_zero, List.set_cons_succ]))
            refine settled_nil (fun w2 hS => ?_)
            go_wp2_with fail
            go_roundw
            case rel => exact ⟨k + 1, (J : Int) + 1, _, .inl (by omega), ⟨by omega, by omega⟩, by go_num, HNext.out, by rw [hQ']; exact HB.out.on hS, hm.thenBelow hS⟩
            case measure => simp [intOf]; omega
    · have hge : ¬ (z < (B : Int)) := by omega
      have HE := Lib.hid (show InsEnds g P D Q rest w (.returned (.tuple #[])) wr from ⟨rfl, by
        have e1 : D.take k = D := List.take_of_length_le (by omega)
        have e2 : D.drop k = [] := List.drop_eq_nil_of_le (by omega)
        rw [e2] at hbk
        rw [e1] at hR0
        unfold isort
        rw [hR0]
        simpa using hbk, hm⟩)
      clear hbk hm hR0
      go_wp2_with fail
      go_end0
      exact HE.out
end Go.Proofs.Ytffianjbljgnaaa
