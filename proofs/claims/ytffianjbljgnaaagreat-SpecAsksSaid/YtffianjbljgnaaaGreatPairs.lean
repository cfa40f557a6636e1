/-
  The pairs of a store from a key on, below another one. Condition: at most a million keys.
-/
import Derived.Test.YtffianjbljgnaaaGreatKeysS
namespace Go.Proofs.YtffianjbljgnaaaGreat
set_option linter.unusedVariables false
set_option linter.unusedSimpArgs false
open Go.RowKit

def pairCells (p : KV) : List Value := [.string ⟨p.1.toArray⟩, .string ⟨p.2.toArray⟩]
def pairsCells (l : List KV) : List Value := l.flatMap pairCells
theorem pairs_length (l : List KV) : (pairsCells l).length = l.length * 2 := by
  induction l with
  | nil => rfl
  | cons e t ih => show (pairCells e ++ pairsCells t).length = _; rw [List.length_append, ih, List.length_cons]; show 2 + _ = _; omega
theorem pairs_append (l m : List KV) : pairsCells (l ++ m) = pairsCells l ++ pairsCells m := by unfold pairsCells; rw [List.flatMap_append]
def inside (lo hi k : Txt) : Bool := decide (lo ≤ k) && (decide (hi = []) || decide (k < hi))
def sel (M : List KV) (lo hi : Txt) : List KV := M.filter fun p => inside lo hi p.1
theorem asc_look {M : List KV} (h : Asc M) {p : KV} (hp : p ∈ M) : look M p.1 = some p.2 := by
  induction M with
  | nil => cases hp
  | cons q t ih =>
    obtain ⟨h1, h2⟩ := List.pairwise_cons.1 h
    unfold look
    rcases List.mem_cons.1 hp with rfl | hp
    · rw [if_pos rfl]
    · rw [if_neg (fun e => txt_ne (h1 p hp) e.symm), ih h2 hp]
/-- What a slice of pairs that is handed back is. -/
def PairsEnd (P : List KV) (w : World) (e : Ending) (w' : World) : Prop :=
  ∃ (a : Option Addr) (c : Nat), e = .returned (.slice a P.length c) ∧ RowsAt w' a P.length c 2 (pairsCells P) ∧ (∀ g o, a = some ⟨g, o, none⟩ → w.heap.size ≤ g) ∧ Below w.heap.size w w'
theorem info_pair : (Tryz.prog.info? 76).map (fun i => (i.zero, i.size, i.bytes)) = some (some (.agg #[.string ⟨#[]⟩, .string ⟨#[]⟩]), 2, 32) := by kernel_rfl
theorem str_eq (s : Txt) : (ByteArray.mk s.toArray == ByteArray.mk #[]) = decide (s = []) := by
  cases s <;> rfl
set_option maxHeartbeats 4000000 in
theorem pairs_any (w : World) (b : Nat) (M : List KV) (lo hi : Txt) (h : StoreAt w b M) (hM : M.length ≤ 1000000) :
    Calls Tryz.prog 44 #[.map (some b), .string ⟨lo.toArray⟩, .string ⟨hi.toArray⟩] w (PairsEnd (sel M lo hi) w) := by
  have hb1 := (Below.refl w.heap.size w).alloc (Nat.le_refl _) (.cells #[.map (some b)] 55)
  have hS := h.on hb1
  have HSort := Lib.hid (sortedS_any w.heap.size b M _ (by simp) (by simp) hS hM)
  have HK := Lib.hid (keysS_any (some b) w)
  have HH := Lib.hid h
  clear hS h
  go_enter Tryz.func44, Tryz.ntmps44
  go_wp2_with fail
  refine HK.out.mono ?_
  rintro e w1 ⟨rfl, rfl⟩
  go_wp2_with fail
  refine HSort.out.mono ?_
  rintro e w1 ⟨a, c, rfl, hrow, hold, hb2⟩
  have HB := Lib.hid (hb1.trans (hb2.mono (by simp)))
  clear hb1 hb2
  go_wp2_with fail
  go_loopw [7, 9, 14] (fun s7 _ s14 wr => ∃ (j : Nat), j ≤ M.length ∧ s14 = .int .i64 j ∧ wr.ownsRow w1.heap.size 76 2 s7 (sel (M.take j) lo hi).length (pairsCells (sel (M.take j) lo hi)) ∧ Below w1.heap.size w1 wr) (fun _ _ s14 _ => M.length - (intOf s14).toNat)
  case atStart => exact ⟨0, by omega, rfl, ⟨rfl, .inl ⟨rfl, rfl⟩⟩, Below.refl _ _⟩
  case round =>
    obtain ⟨j, hj, rfl, hown, hb3⟩ := hrel
    by_cases hlt : j < M.length
    · have hjl : (j : Int) < (M.length : Int) := by omega
      obtain ⟨p, hp⟩ : ∃ p, M[j]? = some p := ⟨_, List.getElem?_eq_getElem hlt⟩
      obtain ⟨g, o, rfl, hg, hc⟩ := (hrow.on hb3).at_ (by omega)
      have c0 := hc j (.string ⟨p.1.toArray⟩) (by rw [List.getElem?_map, hp]; rfl)
      clear hc
      have HRow := Lib.hid hrow
      have HOld := Lib.hid hold
      have HP := Lib.hid hp
      have HOwn := Lib.hid hown
      clear hrow hold hp hown
      go_upto_region 5 with fail
      go_cut [29] (fun s29 wx => s29 = .bool (inside lo hi p.1) ∧ wr = wx)
      case first =>
        by_cases h1 : p.1 < lo
        · have f1 : Op.bytesLess p.1 lo = true := by rw [Go.Proofs.bytesLess_eq]; exact decide_eq_true h1
          have hin : inside lo hi p.1 = false := by unfold inside; rw [decide_eq_false (fun hh => absurd h1 (List.not_lt.2 hh))]; rfl
          have HIn := Lib.hid hin
          clear hin h1
          go_wp2_with fail
          go_meet
          exact ⟨by rw [HIn.out], rfl⟩
        · have f1 : Op.bytesLess p.1 lo = false := by rw [Go.Proofs.bytesLess_eq]; exact decide_eq_false h1
          have hle : decide (lo ≤ p.1) = true := decide_eq_true (List.not_lt.1 h1)
          cases hi with
          | nil =>
            have HIn := Lib.hid (show inside lo [] p.1 = true by unfold inside; rw [hle]; rfl)
            clear hle h1
            go_wp2_with fail
            go_meet
            exact ⟨by rw [HIn.out], rfl⟩
          | cons x xs =>
            have f2 : (({ data := (x :: xs).toArray } : ByteArray) == { data := #[] }) = false := rfl
            by_cases h2 : p.1 < x :: xs
            · have f3 : Op.bytesLess p.1 (x :: xs) = true := by rw [Go.Proofs.bytesLess_eq]; exact decide_eq_true h2
              have HIn := Lib.hid (show inside lo (x :: xs) p.1 = true by unfold inside; rw [hle, decide_eq_true h2]; rfl)
              clear hle h1 h2
              go_wp2_with fail
              go_meet
              exact ⟨by rw [HIn.out], rfl⟩
            · have f3 : Op.bytesLess p.1 (x :: xs) = false := by rw [Go.Proofs.bytesLess_eq]; exact decide_eq_false h2
              have HIn := Lib.hid (show inside lo (x :: xs) p.1 = false by unfold inside; rw [hle, decide_eq_false h2]; rfl)
              clear hle h1 h2
              go_wp2_with fail
              go_meet
              exact ⟨by rw [HIn.out], rfl⟩
      obtain ⟨rfl, rfl⟩ := hcut
      have htk : sel (M.take (j + 1)) lo hi = sel (M.take j) lo hi ++ (if inside lo hi p.1 then [p] else []) := by
        rw [List.take_add_one, HP.out]
        unfold sel
        rw [List.filter_append]
        congr 1
        show List.filter _ [p] = _
        rw [List.filter_cons]; rfl
      cases hin : inside lo hi p.1 with
      | false =>
        rw [hin] at htk
        have HT := Lib.hid htk
        clear htk hin
        go_wp2_with fail
        go_roundw
        case rel => exact ⟨j + 1, by omega, by go_num, by rw [HT.out]; simpa using HOwn.out, hb3⟩
        case measure => simp [intOf]; omega
      | true =>
        rw [hin] at htk
        have HT := Lib.hid htk
        clear htk hin
        have hlook := (HH.out.on (HB.out.trans (hb3.mono HB.out.size))).looks p.1 (HH.out.keys p (List.mem_of_getElem? HP.out))
        rw [asc_look HH.out.asc (List.mem_of_getElem? HP.out)] at hlook
        rw [show str ((some p.2).getD []) = .string ⟨p.2.toArray⟩ from rfl] at hlook
        have hbn := (Below.refl wr.heap.size wr).alloc (Nat.le_refl _) (.cells #[.string ⟨p.1.toArray⟩, .string ⟨p.2.toArray⟩] 76)
        obtain ⟨v', w', hrun, hown', hmod, hblk⟩ := own_append 41 76 41 _ 2 32 Tryz.underlying41 info_pair rfl (by decide) (by decide) (HOwn.out.alloc (.cells #[.string ⟨p.1.toArray⟩, .string ⟨p.2.toArray⟩] 76))
          (by have := List.length_filter_le (fun p => inside lo hi p.1) (M.take j); unfold sel; rw [List.length_take] at this; omega) (by have := hb3.size; simp; omega) ⟨wr.heap.size, 0, none⟩ 1 1 (pairCells p) (by omega) (by omega) rfl
          (fun i u hi => by rw [addr_add', Nat.zero_add, World.cell?_alloc_new]; simpa [pairCells] using hi)
          (by intro u hu; simp only [pairCells, List.mem_cons, List.not_mem_nil, or_false] at hu; rcases hu with rfl | rfl <;> rfl)
        have HOwn' := Lib.hid hown'
        have HM := Lib.hid (show Below w1.heap.size w1 w' from by
          refine hb3.trans (((Mod.of_below hbn).trans hmod).below (fun x hx => ?_) hb3.size)
          exact (HOwn.out.lt x (by simpa using hx)).1)
        clear hown' hmod hblk hbn
        go_wp2_with (at_builtin; (with_reducible refine wpList_append_run rfl _ _ _ rfl _ _ _ _ ?_ ?_ hrun ?_); rfl; rfl)
        go_roundw
        case rel => exact ⟨j + 1, by omega, by go_num, by rw [HT.out, List.length_append, pairs_append]; simpa [pairsCells] using HOwn'.out, HM.out⟩
        case measure => simp [intOf]; omega
    · have hge : ¬ (j : Int) < (M.length : Int) := by omega
      have hjj : j = M.length := by omega
      subst hjj
      rw [List.take_of_length_le (Nat.le_refl _)] at hown
      obtain ⟨a7, c7, rfl⟩ := own_slice hown
      obtain ⟨h1, h2⟩ := own_rows hown
      have HE := Lib.hid (show PairsEnd (sel M lo hi) w (.returned (.slice a7 (sel M lo hi).length c7)) wr from ⟨a7, c7, rfl, h1, fun g o e => Nat.le_trans HB.out.size (h2 g o e), HB.out.trans (hb3.mono HB.out.size)⟩)
      clear hown h1 h2 hrow hold
      go_wp2_with fail
      go_ret
      exact HE.out
end Go.Proofs.YtffianjbljgnaaaGreat
