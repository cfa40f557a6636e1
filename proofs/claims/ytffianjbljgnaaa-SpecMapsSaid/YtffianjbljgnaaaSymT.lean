/-
  Texts folded into one: SymM, SymT.
-/
import Derived.Test.YtffianjbljgnaaaSymV
import Derived.Test.YtffianjbljgnaaaSymL
import Derived.Test.YtffianjbljgnaaaSymR
import Derived.Deep.DeepCutAuto
import Derived.Deep.CutBlock

/-! ### SymM -/
namespace Go.Proofs.Ytffianjbljgnaaa
set_option linter.unusedVariables false
set_option linter.unusedSimpArgs false
open Go.RowKit
set_option maxRecDepth 100000 in
set_option maxHeartbeats 16000000 in
theorem sym_main (K : Nat) (ih : SymGoal K) (g : Nat) (d : Array Nat) (rest : List Value) (cap a m b : Nat) (P A B Q : List Nat) (CB : Nat) (key : Nat → Int) (w : World) (hd : d.toList = P ++ (A ++ (B ++ Q))) (ha : a = P.length) (hm : m = P.length + A.length) (hb : b = P.length + A.length + B.length) (hA0 : 0 < A.length) (hB0 : 0 < B.length) (hA : SortedK key A) (hB : SortedK key B)
    (hcap : d.size ≤ cap) (hsz : d.size ≤ 1000000) (hC : CmpOk g w CB key d.toList) (h : ArrI w g d rest) (hK : b - a ≤ K + 1) (hone : 2 ≤ A.length) (htwo : 2 ≤ B.length) :
    Calls Try.prog 73 #[.slice (some ⟨g, 0, none⟩) d.size cap, .int .i64 a, .int .i64 m, .int .i64 b, .func (.func 45) #[] #[.pointer (some ⟨CB, 0, none⟩)]] w (SymEnd g d.size key P (A ++ B) Q rest w) := by
  have hNl : d.size = P.length + (A.length + (B.length + Q.length)) := by rw [← Array.length_toList, hd]; simp
  obtain ⟨ab, habe⟩ : ∃ s, a + b = s := ⟨_, rfl⟩
  obtain ⟨mid, hmide⟩ : ∃ s, ab / 2 = s := ⟨_, rfl⟩
  have habi : (a : Int) + (b : Int) = (ab : Int) := by omega
  have hwab : IntKind.i64.wrap (ab : Int) = (ab : Int) := IntWalk.i64_in _ (by omega)
  have hwuab : IntKind.u64.wrap (ab : Int) = (ab : Int) := IntWalk.u64_in _ (by omega)
  have hshr : (ab : Int) / (2 : Int) = (mid : Int) := by omega
  have hwmid : IntKind.i64.wrap (mid : Int) = (mid : Int) := IntWalk.i64_in _ (by omega)
  have hwumid : IntKind.u64.wrap (mid : Int) = (mid : Int) := IntWalk.u64_in _ (by omega)
  have hm2 : a + b ≤ 2 * mid + 1 ∧ 2 * mid ≤ a + b := by omega
  have HTail := Lib.hid (fun (_ : True) => @sym_tail1 K ih g d rest cap a m b P A B Q CB key w w hd ha hm hb hA0 hB0 hA hB hcap hsz hC h (Mod.refl _ _) hK hone htwo mid hm2)
  obtain ⟨la, hla⟩ : ∃ k, m - a = k := ⟨_, rfl⟩
  obtain ⟨lb, hlb⟩ : ∃ k, b - m = k := ⟨_, rfl⟩
  have hlai : (m : Int) - (a : Int) = (la : Int) := by omega
  have hlbi : (b : Int) - (m : Int) = (lb : Int) := by omega
  have hwla : IntKind.i64.wrap (la : Int) = (la : Int) := IntWalk.i64_in _ (by omega)
  have hwlb : IntKind.i64.wrap (lb : Int) = (lb : Int) := IntWalk.i64_in _ (by omega)
  have honeB : ((la : Int) == 1) = false := by simp; omega
  have htwoB : ((lb : Int) == 1) = false := by simp; omega
  obtain ⟨N, hN⟩ : ∃ N, d.size = N := ⟨_, rfl⟩
  obtain ⟨AB, hAB⟩ : ∃ X, A ++ B = X := ⟨_, rfl⟩
  rw [hN, hAB] at HTail
  rw [hN, hAB]
  clear hd ha hm hb hA hB hC h ih hNl hla hlb hN hAB habe hmide
  go_enter Try.func73, Try.ntmps73
  go_upto_region 24 with fail
  go_cut [18] (fun s wx => s = .int .i64 mid ∧ w = wx)
  case first =>
    go_wp2_with fail
    go_meet
    exact ⟨rfl, rfl⟩
  obtain ⟨rfl, rfl⟩ := hcut
  first
    | (rename_i hK0; exact hK0 _ _ (HTail.out trivial))
    | (rename_i hK0 _; exact hK0 _ _ (HTail.out trivial))
    | (rename_i hK0 _ _; exact hK0 _ _ (HTail.out trivial))
    | (rename_i hK0 _ _ _; exact hK0 _ _ (HTail.out trivial))
    | (rename_i hK0 _ _ _ _; exact hK0 _ _ (HTail.out trivial))
    | (rename_i hK0 _ _ _ _ _; exact hK0 _ _ (HTail.out trivial))
theorem sym_all (K : Nat) : SymGoal K := by
  induction K with
  | zero =>
    intro g d rest cap a m b P A B Q CB key w hK hd ha hm hb hA0 hB0
    omega
  | succ K ih =>
    intro g d rest cap a m b P A B Q CB key w hK hd ha hm hb hA0 hB0 hA hB hcap hsz hC h
    by_cases h1 : m - a = 1
    · exact sym_left g d rest cap a m b P A B Q CB key w hd ha hm hb hA0 hB0 hA hB hcap hsz hC h h1
    · by_cases h2 : b - m = 1
      · exact sym_right g d rest cap a m b P A B Q CB key w hd ha hm hb hA0 hB0 hA hB hcap hsz hC h (by omega) h2
      · exact sym_main K ih g d rest cap a m b P A B Q CB key w hd ha hm hb hA0 hB0 hA hB hcap hsz hC h hK (by omega) (by omega)
end Go.Proofs.Ytffianjbljgnaaa

/-! ### SymT -/
namespace Go.Proofs.Ytffianjbljgnaaa
set_option linter.unusedVariables false
set_option linter.unusedSimpArgs false
open Go.RowKit

section
variable {α : Type} {key : α → Int}
/-- A list whose blocks of c elements are each sorted. -/
def BS (key : α → Int) (c : Nat) (L : List α) : Prop := ∀ k, SortedK key ((L.drop (k * c)).take c)
theorem BS.nil (c : Nat) : BS key c ([] : List α) := fun k => by simp [SortedK]
theorem BS.sorted {L : List α} (h : SortedK key L) (c : Nat) : BS key c L := fun k =>
  List.Pairwise.sublist ((List.take_sublist _ _).trans (List.drop_sublist _ _)) h
theorem BS.append {c k : Nat} {S M : List α} (h : BS key c S) (hl : S.length = k * c) (hM : BS key c M) : BS key c (S ++ M) := fun j => by
  by_cases hj : j < k
  · have h1 : j * c + c ≤ S.length := by
      rw [hl, ← Nat.succ_mul]
      exact Nat.mul_le_mul_right _ hj
    rw [List.drop_append_of_le_length (by omega), List.take_append_of_le_length (by rw [List.length_drop]; omega)]
    exact h j
  · have h1 : j * c = S.length + (j - k) * c := by
      rw [hl, ← Nat.add_mul]
      congr 1
      omega
    rw [h1, List.drop_append, List.drop_eq_nil_of_le (by omega), List.nil_append, Nat.add_sub_cancel_left]
    exact hM (j - k)
theorem BS.drop {c : Nat} {L : List α} (h : BS key c L) (m : Nat) : BS key c (L.drop (m * c)) := fun k => by
  rw [List.drop_drop, ← Nat.add_mul]
  exact h (m + k)
theorem BS.head {c : Nat} {L : List α} (h : BS key c L) : SortedK key (L.take c) := by
  have := h 0
  rw [Nat.zero_mul, List.drop_zero] at this
  exact this
theorem BS.second {c : Nat} {L : List α} (h : BS key c L) : SortedK key ((L.drop c).take c) := by
  have := h 1
  rw [Nat.one_mul] at this
  exact this
theorem BS.whole {c : Nat} {L : List α} (h : BS key c L) (hl : L.length ≤ c) : SortedK key L := by
  have := h.head
  rw [List.take_of_length_le hl] at this
  exact this
theorem BS.rest {c : Nat} {L : List α} (h : BS key c L) (hl : L.length ≤ 2 * c) : SortedK key (L.drop c) := by
  have := h.second
  rw [List.take_of_length_le (by rw [List.length_drop]; omega)] at this
  exact this
end

/-- What lies in the row while blocks of c are sorted: k of them are. -/
structure BlkSt (g : Nat) (D : List Nat) (rest : List Value) (key : Nat → Int) (c k : Nat) (w0 w : World) (S : List Nat) : Prop where
  len : S.length = k * c
  le : k * c ≤ D.length
  same : SameK key (D.take (k * c)) S
  bs : BS key c S
  blk : Blk w g (i64s (S ++ D.drop (k * c)) ++ rest) 3
  mod : Mod [g] w0 w
theorem BlkSt.start {g : Nat} {D : List Nat} {rest : List Value} {key : Nat → Int} {c : Nat} {w : World} (h : Blk w g (i64s D ++ rest) 3) : BlkSt g D rest key c 0 w w [] :=
  ⟨by simp, by simp, by rw [Nat.zero_mul]; exact SameK.refl _, BS.nil _, by rw [Nat.zero_mul]; exact h, Mod.refl _ _⟩
theorem BlkSt.step {g : Nat} {D : List Nat} {rest : List Value} {key : Nat → Int} {c k : Nat} {w0 w w' : World} {S M : List Nat} (h : BlkSt g D rest key c k w0 w S) (hk : (k + 1) * c ≤ D.length)
    (hM : SortedK key M) (hs : SameK key ((D.drop (k * c)).take c) M) (hb : Blk w' g (i64s (S ++ (M ++ D.drop ((k + 1) * c))) ++ rest) 3) (hm : Mod [g] w w') : BlkSt g D rest key c (k + 1) w0 w' (S ++ M) := by
  have e1 : (k + 1) * c = k * c + c := by rw [Nat.succ_mul]
  refine ⟨?_, hk, ?_, h.bs.append h.len (BS.sorted hM _), by rw [List.append_assoc]; exact hb, h.mod.trans hm⟩
  · have := hs.perm.length_eq
    rw [List.length_take, List.length_drop] at this
    rw [List.length_append, h.len, ← this]
    omega
  · rw [e1, List.take_add]
    exact h.same.app hs
/-- One merge of two blocks that are sorted. -/
theorem merge_one (g : Nat) (D D1 : List Nat) (rest : List Value) (cap : Nat) (key : Nat → Int) (CB : Nat) (w0 w : World) (bs k : Nat) (S : List Nat) (N a m e : Nat) (hS : BlkSt g D1 rest key (2 * bs) k w0 w S) (hB : BS key bs D1) (hC : CmpOk g w0 CB key D) (hD : SameK key D D1)
    (hN : D1.length = N) (hN2 : N ≤ 1000000) (hcap : N ≤ cap) (ha : k * (2 * bs) = a) (hm : a + bs = m) (hme : m < e) (heN : e ≤ N) (hee : e ≤ a + 2 * bs) (h0 : 0 < bs) :
    Calls Try.prog 73 #[.slice (some ⟨g, 0, none⟩) N cap, .int .i64 a, .int .i64 m, .int .i64 e, .func (.func 45) #[] #[.pointer (some ⟨CB, 0, none⟩)]] w
      fun e' w' => e' = .returned (.tuple #[]) ∧ ∃ M, SortedK key M ∧ SameK key ((D1.drop a).take (e - a)) M ∧ Blk w' g (i64s (S ++ (M ++ D1.drop e)) ++ rest) 3 ∧ Mod [g] w w' := by
  have hSl := hS.len
  rw [ha] at hSl
  have hbl := hS.blk
  rw [ha] at hbl
  have hsm := hS.same
  rw [ha] at hsm
  have hlA : ((D1.drop a).take bs).length = bs := by rw [List.length_take, List.length_drop]; omega
  have hlB : ((D1.drop m).take (e - m)).length = e - m := by rw [List.length_take, List.length_drop]; omega
  have e1 : (D1.drop a).take (e - a) = (D1.drop a).take bs ++ (D1.drop m).take (e - m) := by
    rw [show e - a = bs + (e - m) by omega, List.take_add, List.drop_drop, hm]
  have e2 : D1.drop a = (D1.drop a).take bs ++ ((D1.drop m).take (e - m) ++ D1.drop e) := by
    have h1 : (D1.drop m).take (e - m) ++ D1.drop e = D1.drop m := by
      rw [show D1.drop e = (D1.drop m).drop (e - m) by rw [List.drop_drop]; congr 1; omega, List.take_append_drop]
    rw [h1, ← hm, ← List.drop_drop, List.take_append_drop]
  have hA : SortedK key ((D1.drop a).take bs) := by
    have := hB (k * 2)
    rw [Nat.mul_assoc, ha] at this
    exact this
  have hB2 : SortedK key ((D1.drop m).take (e - m)) := by
    have := hB (k * 2 + 1)
    rw [Nat.succ_mul, Nat.mul_assoc, ha, hm] at this
    have h2 : (D1.drop m).take (e - m) = ((D1.drop m).take bs).take (e - m) := by rw [List.take_take]; congr 1; omega
    rw [h2]
    exact List.Pairwise.sublist (List.take_sublist _ _) this
  have hd : (S ++ D1.drop a).toArray.toList = S ++ ((D1.drop a).take bs ++ ((D1.drop m).take (e - m) ++ D1.drop e)) := by
    show S ++ D1.drop a = _
    rw [← e2]
  have hsz : (S ++ D1.drop a).toArray.size = N := by
    show (S ++ D1.drop a).length = N
    rw [List.length_append, List.length_drop]
    omega
  have hsub : ∀ x ∈ (S ++ D1.drop a).toArray.toList, x ∈ D := fun x hx => by
    have hx : x ∈ S ++ D1.drop a := hx
    refine (hD.mem x).2 ?_
    rcases List.mem_append.1 hx with h | h
    · exact List.mem_of_mem_take ((hsm.mem x).2 h)
    · exact List.mem_of_mem_drop h
  have := sym_all (e - a) g (S ++ D1.drop a).toArray rest cap a m e S ((D1.drop a).take bs) ((D1.drop m).take (e - m)) (D1.drop e) CB key w (Nat.le_refl _) hd hSl.symm (by omega) (by omega) (by omega) (by omega) hA hB2 (by omega) (by omega) ((hC.on hS.mod).sub hsub) hbl
  rw [hsz] at this
  refine this.mono ?_
  rintro e' w' ⟨he, M, d', hM, hs, hd', _, hb', hmo⟩
  refine ⟨he, M, hM, by rw [e1]; exact hs, ?_, hmo⟩
  unfold ArrI at hb'
  rw [hd'] at hb'
  exact hb'
set_option maxRecDepth 100000 in
set_option maxHeartbeats 16000000 in
theorem stab_any (g : Nat) (D : List Nat) (rest : List Value) (cap : Nat) (hl : D.length ≤ 100000) (hcap : D.length ≤ cap) (key : Nat → Int) (CB : Nat) (w : World) (hC : CmpOk g w CB key D) (h : Blk w g (i64s D ++ rest) 3) :
    Calls Try.prog 62 #[.slice (some ⟨g, 0, none⟩) D.length cap, .int .i64 D.length, .func (.func 45) #[] #[.pointer (some ⟨CB, 0, none⟩)]] w (StabEnds (fun x y => cmpI (key x) (key y)) g D rest w) := by
  have HC := Lib.hid hC
  have HB := Lib.hid h
  have hltI : ltI (fun x y => cmpI (key x) (key y)) = fun x y => decide (key x < key y) := by
    funext x y
    unfold ltI
    have := cmpI_neg (key x) (key y)
    by_cases h : key x < key y
    · rw [decide_eq_true (this.2 h), decide_eq_true h]
    · rw [decide_eq_false (fun hh => h (this.1 hh)), decide_eq_false h]
  have HLt := Lib.hid hltI
  obtain ⟨N, hN⟩ : ∃ N, D.length = N := ⟨_, rfl⟩
  have HN := Lib.hid hN
  rw [hN] at hl hcap
  rw [hN]
  -- the insertion sort of one block
  have HIns := Lib.hid (show ∀ (wr : World) (k m : Nat) (S : List Nat), BlkSt g D rest key 20 k w wr S → k * 20 + m ≤ N → Calls Try.prog 72 #[.slice (some ⟨g, 0, none⟩) N cap, .int .i64 ((k * 20 : Nat) : Int), .int .i64 ((k * 20 + m : Nat) : Int), .func (.func 45) #[] #[.pointer (some ⟨CB, 0, none⟩)]] wr
      fun e w' => e = .returned (.tuple #[]) ∧ ∃ M, SortedK key M ∧ SameK key ((D.drop (k * 20)).take m) M ∧ Blk w' g (i64s (S ++ (M ++ D.drop (k * 20 + m))) ++ rest) 3 ∧ Mod [g] wr w' from fun wr k m S hS hkm => by
    have hlen := hS.len
    have hNl := HN.out
    have e1 : D.drop (k * 20) = (D.drop (k * 20)).take m ++ D.drop (k * 20 + m) := by rw [← List.drop_drop, List.take_append_drop]
    have hb := hS.blk
    rw [e1] at hb
    have := insortI_any g S ((D.drop (k * 20)).take m) (D.drop (k * 20 + m)) rest cap N (k * 20) (k * 20 + m) (by rw [List.length_take, List.length_drop, List.length_drop]; omega) (by omega) (by rw [List.length_take, List.length_drop]; omega) hcap (by omega) (fun x y => cmpI (key x) (key y)) CB wr
      (fun w' hm' x y hx hy => HC.out.cmp w' (hS.mod.trans hm') x y (List.mem_of_mem_drop (List.mem_of_mem_take hx)) (List.mem_of_mem_drop (List.mem_of_mem_take hy))) hb
    refine this.mono ?_
    rintro e w' ⟨he, hbl, hmo⟩
    rw [HLt.out] at hbl
    exact ⟨he, _, isort_ascK _, isort_same _ |>.symm, hbl, hmo⟩)
  have HSt := Lib.hid (show BlkSt g D rest key 20 0 w w [] from BlkSt.start h)
  clear hC h hltI hN
  go_enter Try.func62, Try.ntmps62
  go_wp2_with fail
  go_loopw [7, 8] (fun s7 s8 wr => ∃ (k : Nat) (S : List Nat), k * 20 ≤ N ∧ s7 = .int .i64 ((k * 20 : Nat) : Int) ∧ s8 = .int .i64 ((k * 20 + 20 : Nat) : Int) ∧ BlkSt g D rest key 20 k w wr S) (fun s7 _ _ => N - (intOf s7).toNat)
  case atStart => exact ⟨0, [], by omega, rfl, rfl, HSt.out⟩
  case round =>
    clear HSt
    obtain ⟨k, S, hk, rfl, rfl, hS⟩ := hrel
    have HS := Lib.hid hS
    clear hS
    obtain ⟨a, ha⟩ : ∃ a, k * 20 = a := ⟨_, rfl⟩
    obtain ⟨b, hb⟩ : ∃ b, a + 20 = b := ⟨_, rfl⟩
    rw [ha] at hk
    simp only [ha]
    simp only [hb]
    have HAe := Lib.hid ha
    have HBe := Lib.hid hb
    by_cases hbn : b ≤ N
    · have hbi : (b : Int) ≤ (N : Int) := by omega
      obtain ⟨b2, hb2⟩ : ∃ c, b + 20 = c := ⟨_, rfl⟩
      have hbi2 : (b : Int) + 20 = (b2 : Int) := by omega
      have hwb2 : IntKind.i64.wrap (b2 : Int) = (b2 : Int) := IntWalk.i64_in _ (by omega)
      have HB2e := Lib.hid hb2
      have HI := Lib.hid (by have := HIns.out wr k 20 S HS.out (by omega); rw [ha, hb] at this; exact this)
      clear ha hb hb2
      go_wp2_with fail
      refine HI.out.mono ?_
      rintro e w1 ⟨rfl, M, hM, hsm, hbl, hmo⟩
      have HS1 := Lib.hid (HS.out.step (M := M) (by have := HAe.out; have := HBe.out; have := HN.out; rw [Nat.succ_mul]; omega) hM (by rw [HAe.out]; exact hsm) (by rw [Nat.succ_mul, HAe.out, HBe.out]; exact hbl) hmo)
      clear hM hsm hbl hmo HI HS
      go_wp2_with fail
      go_roundw
      case rel => exact ⟨k + 1, _, by have := HAe.out; have := HBe.out; rw [Nat.succ_mul]; omega, by rw [Nat.succ_mul, HAe.out, HBe.out], by rw [Nat.succ_mul, HAe.out, HBe.out, HB2e.out], HS1.out⟩
      case measure => simp [intOf]; have := HBe.out; omega
    · have hbi : ¬ (b : Int) ≤ (N : Int) := by omega
      have HI := Lib.hid (by have := HIns.out wr k (N - a) S HS.out (by omega); rw [ha, show a + (N - a) = N by omega] at this; exact this)
      clear ha hb
      go_wp2_with fail
      refine HI.out.mono ?_
      rintro e w1 ⟨rfl, M, hM, hsm, hbl, hmo⟩
      rw [List.drop_eq_nil_of_le (by have := HN.out; omega), List.append_nil] at hbl
      have hsame : SameK key D (S ++ M) := by
        have h1 := HS.out.same
        rw [HAe.out] at h1
        rw [List.take_of_length_le (by rw [List.length_drop]; have := HN.out; omega)] at hsm
        have h2 := h1.app hsm
        rw [List.take_append_drop] at h2
        exact h2
      have hlen : (S ++ M).length = N := by rw [← HN.out]; exact hsame.perm.length_eq.symm
      have HE1 := Lib.hid (show BS key 20 (S ++ M) from HS.out.bs.append HS.out.len (BS.sorted hM _))
      obtain ⟨D1, hD1⟩ : ∃ X, S ++ M = X := ⟨_, rfl⟩
      rw [hD1] at hsame hlen hbl HE1
      have HSame := Lib.hid hsame
      have HLen := Lib.hid hlen
      have HBl := Lib.hid hbl
      have HMo := Lib.hid (HS.out.mod.trans hmo)
      clear hM hsm hbl hmo HI HS hsame hlen hD1 HIns HAe HBe hbi hbn hk
      go_wp2_with fail
      go_loopw [6, 7, 8, 9] (fun s6 _ _ _ wr => ∃ (bs : Nat) (D2 : List Nat), 0 < bs ∧ bs ≤ 200020 ∧ s6 = .int .i64 bs ∧ BS key bs D2 ∧ SameK key D D2 ∧ D2.length = N ∧ Blk wr g (i64s D2 ++ rest) 3 ∧ Mod [g] w wr) (fun s6 _ _ _ _ => N - (intOf s6).toNat)
      case atStart => exact ⟨20, D1, by omega, by omega, rfl, HE1.out, HSame.out, HLen.out, HBl.out, HMo.out⟩
      case round =>
        clear HE1 HSame HLen HBl HMo
        obtain ⟨bs, D2, hb0, hbm, rfl, hBS, hsame, hlen, hbl, hmo⟩ := hrel
        by_cases hbN : bs < N
        · have hbNi : (bs : Int) < (N : Int) := by omega
          have HBS := Lib.hid hBS
          have HSame := Lib.hid hsame
          have HLen := Lib.hid hlen
          have HMo := Lib.hid hmo
          have HSt := Lib.hid (show BlkSt g D2 rest key (2 * bs) 0 wr wr [] from BlkSt.start hbl)
          have HMrg := Lib.hid (fun (w2 : World) (k : Nat) (S : List Nat) (a m e : Nat) (hS : BlkSt g D2 rest key (2 * bs) k wr w2 S) => merge_one g D D2 rest cap key CB wr w2 bs k S N a m e hS hBS (HC.out.on hmo) hsame hlen (by omega) hcap)
          obtain ⟨c2, hc2⟩ : ∃ c, 2 * bs = c := ⟨_, rfl⟩
          rw [hc2] at HSt HMrg
          have hc2i : 2 * (bs : Int) = (c2 : Int) := by omega
          have hc2j : (bs : Int) * 2 = (c2 : Int) := by omega
          have hwc2 : IntKind.i64.wrap (c2 : Int) = (c2 : Int) := IntWalk.i64_in _ (by omega)
          have HC2 := Lib.hid hc2
          clear hBS hsame hlen hbl hmo hc2
          go_wp2_with fail
          generalize wr = wo at *
          go_loopw [7, 8] (fun s7 s8 wr => ∃ (k a b : Nat) (S : List Nat), k * c2 = a ∧ a + c2 = b ∧ a ≤ N ∧ s7 = .int .i64 (a : Nat) ∧ s8 = .int .i64 (b : Nat) ∧ BlkSt g D2 rest key c2 k wo wr S) (fun s7 _ _ => N - (intOf s7).toNat)
          case atStart => exact ⟨0, 0, c2, [], by omega, by omega, by omega, rfl, rfl, HSt.out⟩
          case round =>
            clear HSt
            obtain ⟨k, a, b, S, hka, hab, haN, rfl, rfl, hS⟩ := hrel
            have HS := Lib.hid hS
            have HKa := Lib.hid hka
            have HAb := Lib.hid hab
            have HC2o := HC2.out
            obtain ⟨m, hm⟩ : ∃ m, a + bs = m := ⟨_, rfl⟩
            have hmi : (a : Int) + (bs : Int) = (m : Int) := by omega
            have hwm : IntKind.i64.wrap (m : Int) = (m : Int) := IntWalk.i64_in _ (by omega)
            have HMe := Lib.hid hm
            by_cases hbn : b ≤ N
            · have hbi : (b : Int) ≤ (N : Int) := by omega
              obtain ⟨b2, hb2⟩ : ∃ x, b + c2 = x := ⟨_, rfl⟩
              have hb2i : (b : Int) + (c2 : Int) = (b2 : Int) := by omega
              have hwb2 : IntKind.i64.wrap (b2 : Int) = (b2 : Int) := IntWalk.i64_in _ (by omega)
              have HB2e := Lib.hid hb2
              have HM := Lib.hid (HMrg.out wr k S a m b hS hka hm (by omega) hbn (by omega) hb0)
              clear hS hka hab hm hb2 HC2o
              go_wp2_with fail
              refine HM.out.mono ?_
              rintro e w2 ⟨rfl, M, hM, hsm, hbl, hmo⟩
              have e9 : (k + 1) * c2 = b := by rw [Nat.succ_mul, HKa.out, HAb.out]
              have HS1 := Lib.hid (HS.out.step (M := M) (by rw [e9, HLen.out]; exact hbn) hM (by rw [HKa.out]; have := HAb.out; rw [show b - a = c2 by omega] at hsm; exact hsm) (by rw [e9]; exact hbl) hmo)
              have HE9 := Lib.hid e9
              clear hM hsm hbl hmo HM HS e9
              go_wp2_with fail
              go_roundw
              case rel => exact ⟨k + 1, b, b2, _, HE9.out, HB2e.out, hbn, rfl, rfl, HS1.out⟩
              case measure => simp [intOf]; have := HAb.out; have := HC2.out; omega
            · have hbi : ¬ (b : Int) ≤ (N : Int) := by omega
              by_cases hmN : m < N
              · have hmNi : (m : Int) < (N : Int) := by omega
                have HM := Lib.hid (HMrg.out wr k S a m N hS hka hm hmN (Nat.le_refl _) (by omega) hb0)
                clear hS hka hab hm HC2o
                go_wp2_with fail
                refine HM.out.mono ?_
                rintro e w2 ⟨rfl, M, hM, hsm, hbl, hmo⟩
                rw [List.drop_eq_nil_of_le (by have := HLen.out; omega), List.append_nil] at hbl
                rw [List.take_of_length_le (by rw [List.length_drop]; have := HLen.out; omega)] at hsm
                have hsame : SameK key D2 (S ++ M) := by
                  have h1 := HS.out.same
                  rw [HKa.out] at h1
                  have h2 := h1.app hsm
                  rw [List.take_append_drop] at h2
                  exact h2
                have HSame2 := Lib.hid (HSame.out.trans hsame)
                have HLen2 := Lib.hid (show (S ++ M).length = N by rw [← HLen.out]; exact hsame.perm.length_eq.symm)
                have HE2 := Lib.hid (show BS key c2 (S ++ M) from HS.out.bs.append HS.out.len (BS.sorted hM _))
                have HBl2 := Lib.hid hbl
                have HMo2 := Lib.hid ((HMo.out.trans HS.out.mod).trans hmo)
                clear hM hsm hbl hmo HM HS hsame
                go_wp2_with fail
                go_roundw
                case rel => exact ⟨c2, _, by have := HC2.out; omega, by have := HC2.out; omega, rfl, HE2.out, HSame2.out, HLen2.out, HBl2.out, HMo2.out⟩
                case measure => simp [intOf]; have := HC2.out; omega
              · have hmNi : ¬ (m : Int) < (N : Int) := by omega
                have hbl := hS.blk
                rw [hka] at hbl
                have hMs : SortedK key (D2.drop a) := by
                  have h1 := HBS.out (k * 2)
                  rw [Nat.mul_assoc, HC2.out, hka] at h1
                  rw [List.take_of_length_le (by rw [List.length_drop]; have := HLen.out; omega)] at h1
                  exact h1
                have hsame : SameK key D2 (S ++ D2.drop a) := by
                  have h1 := hS.same
                  rw [hka] at h1
                  have h2 := h1.app (SameK.refl (D2.drop a))
                  rw [List.take_append_drop] at h2
                  exact h2
                have HSame2 := Lib.hid (HSame.out.trans hsame)
                have HLen2 := Lib.hid (show (S ++ D2.drop a).length = N by rw [← HLen.out]; exact hsame.perm.length_eq.symm)
                have HE2 := Lib.hid (show BS key c2 (S ++ D2.drop a) from hS.bs.append hS.len (BS.sorted hMs _))
                have HBl2 := Lib.hid hbl
                have HMo2 := Lib.hid (HMo.out.trans hS.mod)
                clear hMs hbl hS hsame hka hab hm HC2o
                go_wp2_with fail
                go_roundw
                case rel => exact ⟨c2, _, by have := HC2.out; omega, by have := HC2.out; omega, rfl, HE2.out, HSame2.out, HLen2.out, HBl2.out, HMo2.out⟩
                case measure => simp [intOf]; have := HC2.out; omega
        · have hbNi : ¬ (bs : Int) < (N : Int) := by omega
          have HEnd := Lib.hid (show StabEnds (fun x y => cmpI (key x) (key y)) g D rest w (.returned (.tuple #[])) wr from by
            refine ⟨rfl, ?_, hmo⟩
            rw [HLt.out, ← isort_of_same (hBS.whole (by omega)) hsame]
            exact hbl)
          clear hBS hsame hlen hbl hmo
          go_wp2_with fail
          go_end0
          exact HEnd.out
set_option maxHeartbeats 1000000 in
theorem stable_any (g : Nat) (D : List Nat) (rest : List Value) (cap : Nat) (hl : D.length ≤ 100000) (hcap : D.length ≤ cap) (key : Nat → Int) (CB : Nat) (w : World) (hC : CmpOk g w CB key D) (h : Blk w g (i64s D ++ rest) 3) :
    Calls Try.prog 44 #[.slice (some ⟨g, 0, none⟩) D.length cap, .func (.func 45) #[] #[.pointer (some ⟨CB, 0, none⟩)]] w (StabEnds (fun x y => cmpI (key x) (key y)) g D rest w) := by
  have HS := Lib.hid (stab_any g D rest cap hl hcap key CB w hC h)
  clear hC
  go_enter Try.func44, Try.ntmps44
  go_wp2_with fail
  refine HS.out.mono ?_
  rintro e w1 ⟨rfl, hb, hm⟩
  go_wp2_with fail
  go_end0
  exact ⟨rfl, hb, hm⟩
end Go.Proofs.Ytffianjbljgnaaa
