/-
  look.Bounds and look.Quiet. Condition: at most a hundred thousand calls. (Printed by gen_lookc.py.)
-/
import Derived.Test.YtecknikehieioaaGreatLookW
import Derived.Test.YtecknikehieioaaGreatSerial
namespace Go.Proofs.YtecknikehieioaaGreat
set_option linter.unusedVariables false
set_option linter.unusedSimpArgs false
open Go.RowKit Go.Maps

set_option maxRecDepth 100000 in
set_option maxHeartbeats 4000000 in
theorem bounds51_any (w : World) (i u sx : Nat) (s : Sn) (T : List Nat) (h : SnAt w sx s) (hT : RowsAt w s.aa s.an s.ac 1 (u64s T)) (hl : T.length = s.an) (hi : T[i]? = some u) :
    Calls Tryz.prog 51 #[.int .i64 i, .int .u64 u, .pointer (some ⟨sx, 0, none⟩)] w fun e w' => e = .returned (.bool (badU T i u)) ∧ w = w' := by
  obtain ⟨_, _, _, _, _, _, _, _, _, _, c10, _⟩ := h.cells
  have hil := (List.getElem?_eq_some_iff.1 hi).1
  have hmax := hT.max
  obtain ⟨tcUp, dcUp, ready, sync, base, stable, last, eosl, low, ca, cn, cc, aa, an, ac, fly⟩ := s
  simp only at c10 hT hl hmax
  cases i with
  | zero =>
    have HR := Lib.hid (show badU T 0 u = false from rfl)
    clear hi hT hl h
    rw [HR.out]
    go_enter Tryz.func51, Tryz.ntmps51
    go_wp2_with fail
    go_ret
    exact ⟨by try rfl, rfl⟩
  | succ j =>
    obtain ⟨g, o, rfl, hg, hc⟩ := hT.at_ (by omega)
    obtain ⟨v, hv⟩ : ∃ v, T[j]? = some v := ⟨_, List.getElem?_eq_getElem (by omega)⟩
    have d0 := hc j _ (u64s_nth T j v hv)
    have hgt : ((j + 1 : Nat) : Int) > 0 := by omega
    have hjn : (j : Int) < (an : Int) := by omega
    have hwj : IntKind.i64.wrap (j : Int) = (j : Int) := IntWalk.i64_in _ (by omega)
    have hji : ((j + 1 : Nat) : Int) - 1 = (j : Int) := by omega
    have HE := Lib.hid (show badU T (j + 1) u = decide (u ≤ v) by
      unfold badU
      rw [List.getD_eq_getElem?_getD, show j + 1 - 1 = j from rfl, hv]
      simp)
    clear hi hT h hc hv
    obtain ⟨I, hI⟩ : ∃ I, j + 1 = I := ⟨_, rfl⟩
    rw [hI] at hgt hji HE
    rw [hI]
    obtain ⟨bad, hbad⟩ : ∃ b, badU T I u = b := ⟨_, rfl⟩
    rw [hbad] at HE ⊢
    clear hI hbad hl hil
    by_cases hle : u ≤ v
    · have hlei : (v : Int) ≥ (u : Int) := by omega
      have HR := Lib.hid (show bad = true by rw [HE.out, decide_eq_true hle])
      clear hle HE
      go_enter Tryz.func51, Tryz.ntmps51
      go_wp2_with fail
      go_ret
      exact ⟨by rw [HR.out]; try rfl, rfl⟩
    · have hlei : ¬ (v : Int) ≥ (u : Int) := by omega
      have HR := Lib.hid (show bad = false by rw [HE.out, decide_eq_false hle])
      clear hle HE
      go_enter Tryz.func51, Tryz.ntmps51
      go_wp2_with fail
      go_ret
      exact ⟨by rw [HR.out]; try rfl, rfl⟩
set_option maxRecDepth 100000 in
set_option maxHeartbeats 4000000 in
theorem firstU_any (w : World) (sx : Nat) (s : Sn) (T : List Nat) (h : SnAt w sx s) (hT : RowsAt w s.aa s.an s.ac 1 (u64s T)) (hl : T.length = s.an) :
    Calls Tryz.prog 50 #[.slice s.aa s.an s.ac, .func (.func 51) #[] #[.pointer (some ⟨sx, 0, none⟩)]] w fun e w' => e = .returned (.int .i64 (firstU T 0 T)) ∧ w = w' := by
  have HB := Lib.hid (fun i u hi => bounds51_any w i u sx s T h hT hl hi)
  have hmax := hT.max
  obtain ⟨tcUp, dcUp, ready, sync, base, stable, last, eosl, low, ca, cn, cc, aa, an, ac, fly⟩ := s
  simp only at hT hl hmax
  have HT := Lib.hid hT
  have HL := Lib.hid hl
  clear h hT hl
  go_enter Tryz.func50, Tryz.ntmps50
  go_wp2_with fail
  go_loopw [4, 5, 6, 9] (fun _ _ _ s9 wr => ∃ i : Nat, i ≤ an ∧ s9 = .int .i64 i ∧ firstU T 0 T = firstU T i (T.drop i) ∧ w = wr) (fun _ _ _ s9 _ => an - (intOf s9).toNat)
  case atStart => exact ⟨0, by omega, rfl, rfl, rfl⟩
  case round =>
    obtain ⟨i, hi, rfl, hfi, rfl⟩ := hrel
    by_cases hlt : i < an
    · have hil : (i : Int) < (an : Int) := by omega
      obtain ⟨g, o, rfl, hg, hc⟩ := HT.out.at_ (by omega)
      obtain ⟨u, hu⟩ : ∃ u, T[i]? = some u := ⟨_, List.getElem?_eq_getElem (by rw [HL.out]; omega)⟩
      have d0 := hc i _ (u64s_nth T i u hu)
      have HN := Lib.hid (show firstU T 0 T = if badU T i u then (i : Int) else firstU T (i + 1) (T.drop (i + 1)) by rw [hfi, firstU_drop T i u hu])
      have HS := Lib.hid (HB.out i u hu)
      clear hfi hu hc
      go_wp2_with fail
      refine HS.out.mono ?_
      rintro e w2 ⟨rfl, rfl⟩
      cases hak : badU T i u with
      | true =>
        have HR := Lib.hid (show firstU T 0 T = (i : Int) by rw [HN.out, hak]; rfl)
        clear hak
        go_wp2_with fail
        go_ret
        exact ⟨by rw [HR.out]; try rfl, rfl⟩
      | false =>
        have HR := Lib.hid (show firstU T 0 T = firstU T (i + 1) (T.drop (i + 1)) by rw [HN.out, hak]; rfl)
        clear hak
        go_wp2_with fail
        go_roundw
        case rel => exact ⟨i + 1, by omega, by go_num, HR.out, by first | rfl | trivial⟩
        case measure => simp [intOf]; omega
    · have hge : ¬ (i : Int) < (an : Int) := by omega
      have HR := Lib.hid (show firstU T 0 T = -1 by rw [hfi, List.drop_eq_nil_of_le (by rw [HL.out]; omega)]; rfl)
      clear hfi
      go_wp2_with fail
      go_ret
      exact ⟨by rw [HR.out]; try rfl, rfl⟩
set_option maxRecDepth 100000 in
set_option maxHeartbeats 4000000 in
theorem bounds5_any (w : World) (sx : Nat) (s : Sn) (T : List Nat) (h : SnAt w sx s) (hT : RowsAt w s.aa s.an s.ac 1 (u64s T)) (hl : T.length = s.an) :
    Calls Tryz.prog 49 #[.pointer (some ⟨sx, 0, none⟩)] w fun e w' => e = .returned (.bool (ascB T)) ∧ w = w' := by
  have HF := Lib.hid (firstU_any w sx s T h hT hl)
  obtain ⟨_, _, _, _, _, _, _, _, _, _, c10, _⟩ := h.cells
  have HA := Lib.hid (firstU_asc T)
  obtain ⟨f, hf⟩ : ∃ f, firstU T 0 T = f := ⟨_, rfl⟩
  obtain ⟨bv, hb⟩ : ∃ b, ascB T = b := ⟨_, rfl⟩
  rw [hf] at HF HA
  rw [hb] at HA ⊢
  clear h hT hl hf hb
  obtain ⟨tcUp, dcUp, ready, sync, base, stable, last, eosl, low, ca, cn, cc, aa, an, ac, fly⟩ := s
  simp only at HF c10
  by_cases h0 : f < 0
  · have HR := Lib.hid (show bv = true by rw [← HA.out, decide_eq_true h0])
    go_enter Tryz.func49, Tryz.ntmps49
    go_wp2_with fail
    refine HF.out.mono ?_
    rintro e w2 ⟨rfl, rfl⟩
    go_wp2_with fail
    go_ret
    exact ⟨by rw [HR.out]; first | rfl | simp [h0], rfl⟩
  · have HR := Lib.hid (show bv = false by rw [← HA.out, decide_eq_false h0])
    go_enter Tryz.func49, Tryz.ntmps49
    go_wp2_with fail
    refine HF.out.mono ?_
    rintro e w2 ⟨rfl, rfl⟩
    go_wp2_with fail
    go_ret
    exact ⟨by rw [HR.out]; first | rfl | (simp; omega), rfl⟩
set_option maxRecDepth 100000 in
set_option maxHeartbeats 4000000 in
theorem ask_any (w : World) (f : Nat) (p : Value) (b : Bool) (h : Calls Tryz.prog f #[p] w fun e w' => e = .returned (.bool b) ∧ w = w') (he : ∀ args w, (callFunc f args).run Tryz.prog w = .ok (.enter f args) w) :
    Calls Tryz.prog 73 #[.func (.func f) #[] #[p]] w fun e w' => e = .returned (.bool (!b)) ∧ Below w.heap.size w w' := by
  have H := Lib.hid h
  clear h
  go_enter Tryz.func73, Tryz.ntmps73
  go_wp2_with fail
  refine H.out.mono ?_
  rintro e w2 ⟨rfl, rfl⟩
  go_wp2_with fail
  go_ret
  exact ⟨by try rfl, Below.refl _ _⟩

set_option maxRecDepth 100000 in
set_option maxHeartbeats 4000000 in
theorem dn_any (w : World) (i : Int) (x : Md) :
    Calls Tryz.prog 55 #[.int .i64 i, .agg (mdCells x).toArray] w fun e w' => e = .returned (.bool (!x.dn)) ∧ Below w.heap.size w w' := by
  have hbn := (Below.refl w.heap.size w).alloc (Nat.le_refl _) (.cells (mdCells x).toArray 40)
  have HBN := Lib.hid hbn
  have HX := Lib.hid (md_box w x)
  clear hbn
  go_enter Tryz.func55, Tryz.ntmps55
  go_upto_region 1 with fail
  generalize w.alloc (.cells (mdCells x).toArray 40) = w1 at *
  obtain ⟨_, _, _, _, _, _, _, d7, _⟩ := HX.out
  simp only [Nat.zero_add] at d7
  clear HX
  go_wp2_with fail
  go_ret
  exact ⟨by try rfl, HBN.out⟩

set_option maxRecDepth 100000 in
set_option maxHeartbeats 4000000 in
theorem firstD_any (w : World) (f : Md → Bool) (am : Option Addr) (nm cm : Nat) (zm : List MZ) (hm : MadeAt w am nm cm zm) (hnm : nm ≤ 100000)
    (hf : ∀ w' (i : Nat) q, q ∈ zm → Below w.heap.size w w' → Calls Tryz.prog 55 #[.int .i64 i, .agg (mdCells q.1).toArray] w' fun e w'' => e = .returned (.bool (f q.1)) ∧ Below w'.heap.size w' w'') :
    Calls Tryz.prog 30 #[.slice am nm cm, .func (.func 55) #[] #[]] w fun e w' => e = .returned (.int .i64 (firstAt f 0 zm)) ∧ Below w.heap.size w w' := by
  have HMM := Lib.hid hm
  have HF := Lib.hid hf
  clear hm hf
  go_enter Tryz.func30, Tryz.ntmps30
  go_wp2_with fail
  go_loopw [4, 5, 6, 9] (fun _ _ _ s9 wr => ∃ i : Nat, i ≤ nm ∧ s9 = .int .i64 i ∧ firstAt f 0 zm = firstAt f i (zm.drop i) ∧ Below w.heap.size w wr) (fun _ _ _ s9 _ => nm - (intOf s9).toNat)
  case atStart => exact ⟨0, by omega, rfl, rfl, Below.refl _ _⟩
  case round =>
    obtain ⟨i, hi, rfl, hfi, hb⟩ := hrel
    by_cases hlt : i < nm
    · have hil : (i : Int) < (nm : Int) := by omega
      obtain ⟨q, g, o, hq, hqz, rfl, hg, hc⟩ := (HMM.out.on hb).row hlt
      have HN := Lib.hid (show firstAt f 0 zm = if f q.1 then (i : Int) else firstAt f (i + 1) (zm.drop (i + 1)) by rw [hfi, firstAt_drop _ _ _ _ hq])
      have HC := Lib.hid hc
      have hBn := (Below.refl wr.heap.size wr).alloc (Nat.le_refl _) (.cells (mdCells q.1).toArray 40)
      have HBox := Lib.hid (md_box wr q.1)
      have HB := Lib.hid (hb.trans (hBn.mono hb.size))
      have HS := Lib.hid (HF.out (wr.alloc (.cells (mdCells q.1).toArray 40)) i q hqz HB.out)
      clear hfi hq hqz hc hb hBn
      go_upto_region 4 with (first | ((with_reducible refine wpList_loadM rfl _ rfl _ _ _ HC.out ?_ ?_); rfl) | ((with_reducible refine wpList_storeM rfl _ _ rfl _ q.1 ?_ ?_ ?_); rfl; rfl))
      go_frame
      go_wp2_with ((with_reducible refine wpList_loadM rfl _ rfl _ _ _ HBox.out ?_ ?_); rfl)
      refine HS.out.mono ?_
      rintro e w2 ⟨rfl, hb2⟩
      have HB2 := Lib.hid (HB.out.trans (hb2.mono HB.out.size))
      clear hb2
      cases hak : f q.1 with
      | true =>
        have HR := Lib.hid (show firstAt f 0 zm = (i : Int) by rw [HN.out, hak]; rfl)
        clear hak
        go_wp2_with fail
        go_ret
        exact ⟨by rw [HR.out]; try rfl, HB2.out⟩
      | false =>
        have HR := Lib.hid (show firstAt f 0 zm = firstAt f (i + 1) (zm.drop (i + 1)) by rw [HN.out, hak]; rfl)
        clear hak
        go_wp2_with fail
        go_roundw
        case rel => exact ⟨i + 1, by omega, by go_num, HR.out, HB2.out⟩
        case measure => simp [intOf]; omega
    · have hge : ¬ (i : Int) < (nm : Int) := by omega
      have HR := Lib.hid (show firstAt f 0 zm = -1 by
        have hin : i = zm.length := by rw [HMM.out.len]; omega
        rw [hfi, hin, List.drop_eq_nil_of_le (Nat.le_refl _)]; rfl)
      have HB := Lib.hid hb
      clear hfi hb
      go_wp2_with fail
      go_ret
      exact ⟨by rw [HR.out]; try rfl, HB.out⟩
theorem firstAt_dn (Z : List MZ) (i : Nat) : decide (firstAt (fun m => !m.dn) i Z < 0) = Z.all fun q => q.1.dn := by
  induction Z generalizing i with
  | nil => rfl
  | cons q t ih =>
    unfold firstAt
    rw [List.all_cons]
    cases q.1.dn with
    | true => simpa using ih (i + 1)
    | false => simp
set_option maxRecDepth 100000 in
set_option maxHeartbeats 4000000 in
theorem quiet3_any (w : World) (mx : Nat) (am : Option Addr) (nm cm : Nat) (zm : List MZ) (hm : MadeAt w am nm cm zm) (hnm : nm ≤ 100000) (hb : w.cell? ⟨mx, 0, none⟩ = some (.slice am nm cm)) :
    Calls Tryz.prog 54 #[.pointer (some ⟨mx, 0, none⟩)] w fun e w' => e = .returned (.bool (zm.all fun q => q.1.dn)) ∧ Below w.heap.size w w' := by
  have HF := Lib.hid (firstD_any w (fun m => !m.dn) am nm cm zm hm hnm (fun w' i q hq hb => dn_any w' i q.1))
  have HA := Lib.hid (firstAt_dn zm 0)
  obtain ⟨f, hf⟩ : ∃ f, firstAt (fun m => !m.dn) 0 zm = f := ⟨_, rfl⟩
  obtain ⟨bv, hv⟩ : ∃ b, (zm.all fun q => q.1.dn) = b := ⟨_, rfl⟩
  rw [hf] at HF HA
  rw [hv] at HA ⊢
  clear hm hf hv
  by_cases h0 : f < 0
  · have HR := Lib.hid (show bv = true by rw [← HA.out, decide_eq_true h0])
    go_enter Tryz.func54, Tryz.ntmps54
    go_wp2_with fail
    refine HF.out.mono ?_
    rintro e w2 ⟨rfl, hb2⟩
    have HB2 := Lib.hid hb2
    clear hb2
    go_wp2_with fail
    go_ret
    exact ⟨by rw [HR.out]; first | rfl | simp [h0], HB2.out⟩
  · have HR := Lib.hid (show bv = false by rw [← HA.out, decide_eq_false h0])
    go_enter Tryz.func54, Tryz.ntmps54
    go_wp2_with fail
    refine HF.out.mono ?_
    rintro e w2 ⟨rfl, hb2⟩
    have HB2 := Lib.hid hb2
    clear hb2
    go_wp2_with fail
    go_ret
    exact ⟨by rw [HR.out]; first | rfl | (simp; omega), HB2.out⟩
theorem askB_any (w : World) (f : Nat) (p : Value) (b : Bool) (h : Calls Tryz.prog f #[p] w fun e w' => e = .returned (.bool b) ∧ Below w.heap.size w w') (he : ∀ args w, (callFunc f args).run Tryz.prog w = .ok (.enter f args) w) :
    Calls Tryz.prog 73 #[.func (.func f) #[] #[p]] w fun e w' => e = .returned (.bool (!b)) ∧ Below w.heap.size w w' := by
  have H := Lib.hid h
  clear h
  go_enter Tryz.func73, Tryz.ntmps73
  go_wp2_with fail
  refine H.out.mono ?_
  rintro e w2 ⟨rfl, hb⟩
  have HB := Lib.hid hb
  clear hb
  go_wp2_with fail
  go_ret
  exact ⟨by try rfl, HB.out⟩
def BoundsEnd (s : Sn) (T : List Nat) (w : World) (e : Ending) (w' : World) : Prop := e = .returned (.bool (boundsL s T)) ∧ Below w.heap.size w w'
def QuietEnd (s : Sn) (T : List Nat) (Z : List MZ) (w : World) (e : Ending) (w' : World) : Prop := e = .returned (.bool (quietL s T Z)) ∧ Below w.heap.size w w'
set_option maxRecDepth 100000 in
set_option maxHeartbeats 4000000 in
theorem bounds_any (w : World) (s : Sn) (T : List Nat) (hT : RowsAt w s.aa s.an s.ac 1 (u64s T)) (hl : T.length = s.an) :
    Calls Tryz.prog 19 #[.agg (snCells s).toArray] w (BoundsEnd s T w) := by
  obtain ⟨tcUp, dcUp, ready, sync, base, stable, last, eosl, low, ca, cn, cc, aa, an, ac, fly⟩ := s
  simp only at hT hl
  unfold BoundsEnd
  obtain ⟨bv, hbv⟩ : ∃ b, boundsL (⟨tcUp, dcUp, ready, sync, base, stable, last, eosl, low, ca, cn, cc, aa, an, ac, fly⟩ : Sn) T = b := ⟨_, rfl⟩
  rw [hbv]
  show Calls Tryz.prog 19 #[.agg #[.bool tcUp, .bool dcUp, .bool ready, .bool sync, .int .u64 (base : Nat), .int .u64 (stable : Nat), .int .u64 (last : Nat), .int .u64 (eosl : Nat), .int .u64 (low : Nat), .slice ca cn cc, .slice aa an ac, .int .i64 fly]] w _
  have hA : Blk (w.alloc (.cells #[.bool tcUp, .bool dcUp, .bool ready, .bool sync, .int .u64 (base : Nat), .int .u64 (stable : Nat), .int .u64 (last : Nat), .int .u64 (eosl : Nat), .int .u64 (low : Nat), .slice ca cn cc, .slice aa an ac, .int .i64 fly] 47)) w.heap.size (snCells (⟨tcUp, dcUp, ready, sync, base, stable, last, eosl, low, ca, cn, cc, aa, an, ac, fly⟩ : Sn)) 47 := Blk.new w (snCells (⟨tcUp, dcUp, ready, sync, base, stable, last, eosl, low, ca, cn, cc, aa, an, ac, fly⟩ : Sn)) 47
  have hbn := (Below.refl w.heap.size w).alloc (Nat.le_refl _) (.cells #[.bool tcUp, .bool dcUp, .bool ready, .bool sync, .int .u64 (base : Nat), .int .u64 (stable : Nat), .int .u64 (last : Nat), .int .u64 (eosl : Nat), .int .u64 (low : Nat), .slice ca cn cc, .slice aa an ac, .int .i64 fly] 47)
  go_enter Tryz.func19, Tryz.ntmps19
  go_upto_region 1 with fail
  generalize w.alloc (.cells #[.bool tcUp, .bool dcUp, .bool ready, .bool sync, .int .u64 (base : Nat), .int .u64 (stable : Nat), .int .u64 (last : Nat), .int .u64 (eosl : Nat), .int .u64 (low : Nat), .slice ca cn cc, .slice aa an ac, .int .i64 fly] 47) = w1 at *
  have hSn : SnAt w1 w.heap.size (⟨tcUp, dcUp, ready, sync, base, stable, last, eosl, low, ca, cn, cc, aa, an, ac, fly⟩ : Sn) := ⟨hA⟩
  obtain ⟨sx, hsx⟩ : ∃ x, w.heap.size = x := ⟨_, rfl⟩
  have HBN := Lib.hid hbn
  rw [hsx] at hSn
  have hAl := (Below.refl w1.heap.size w1).alloc (Nat.le_refl _) (.cells #[.func (.func 45) #[] #[.pointer (some ⟨sx, 0, none⟩)], .func (.func 46) #[] #[.pointer (some ⟨sx, 0, none⟩)], .func (.func 47) #[] #[.pointer (some ⟨sx, 0, none⟩)], .func (.func 48) #[] #[.pointer (some ⟨sx, 0, none⟩)], .func (.func 49) #[] #[.pointer (some ⟨sx, 0, none⟩)]] 28)
  have hF : Blk (w1.alloc (.cells #[.func (.func 45) #[] #[.pointer (some ⟨sx, 0, none⟩)], .func (.func 46) #[] #[.pointer (some ⟨sx, 0, none⟩)], .func (.func 47) #[] #[.pointer (some ⟨sx, 0, none⟩)], .func (.func 48) #[] #[.pointer (some ⟨sx, 0, none⟩)], .func (.func 49) #[] #[.pointer (some ⟨sx, 0, none⟩)]] 28)) w1.heap.size ([.func (.func 45) #[] #[.pointer (some ⟨sx, 0, none⟩)], .func (.func 46) #[] #[.pointer (some ⟨sx, 0, none⟩)], .func (.func 47) #[] #[.pointer (some ⟨sx, 0, none⟩)], .func (.func 48) #[] #[.pointer (some ⟨sx, 0, none⟩)], .func (.func 49) #[] #[.pointer (some ⟨sx, 0, none⟩)]] ++ []) 28 := Blk.new w1 _ _
  have hR := RowsAt.of_blk (k := 1) (n := 5) (c := 5) hF rfl (by omega) (by omega)
  have HEv := Lib.hid (every_any _ (some ⟨w1.heap.size, 0, none⟩) 5 5 _ [!tcUp || (decide (base ≤ stable) && decide (stable ≤ last)), !dcUp || decide (low ≤ eosl), !tcUp || (!dcUp || decide (eosl ≤ stable)), decide (an ≤ 6) && (decide (0 ≤ fly) && decide (fly ≤ 400)), ascB T] hR rfl (by omega) (fun k v b hv hb w' hw => by
    have hs := (hSn.on hAl).on hw
    have hTw := ((hT.on (hbn.mono (by omega))).on hAl).on hw
    match k, hv, hb with
    | 0, hv, hb => cases hv; cases hb; exact ask_any w' _ _ _ (bounds1_any w' sx _ hs) (enters_of Tryz.func45 (by kernel_rfl) rfl)
    | 1, hv, hb => cases hv; cases hb; exact ask_any w' _ _ _ (bounds2_any w' sx _ hs) (enters_of Tryz.func46 (by kernel_rfl) rfl)
    | 2, hv, hb => cases hv; cases hb; exact ask_any w' _ _ _ (bounds3_any w' sx _ hs) (enters_of Tryz.func47 (by kernel_rfl) rfl)
    | 3, hv, hb => cases hv; cases hb; exact ask_any w' _ _ _ (bounds4_any w' sx _ hs) (enters_of Tryz.func48 (by kernel_rfl) rfl)
    | 4, hv, hb => cases hv; cases hb; exact ask_any w' _ _ _ (bounds5_any w' sx _ T hs hTw hl) (enters_of Tryz.func49 (by kernel_rfl) rfl)
    | k + 5, hv, hb => simp at hv))
  have HAl := Lib.hid hAl
  have HV := Lib.hid (show ([!tcUp || (decide (base ≤ stable) && decide (stable ≤ last)), !dcUp || decide (low ≤ eosl), !tcUp || (!dcUp || decide (eosl ≤ stable)), decide (an ≤ 6) && (decide (0 ≤ fly) && decide (fly ≤ 400)), ascB T] : List Bool).all id = bv from by
    rw [← hbv]
    show _ = ((!tcUp || (decide (base ≤ stable) && decide (stable ≤ last))) && ((!dcUp || decide (low ≤ eosl)) && ((!tcUp || (!dcUp || decide (eosl ≤ stable))) && ((decide (T.length ≤ 6) && (decide (0 ≤ fly) && decide (fly ≤ 400))) && ascB T))))
    rw [hl]
    simp only [List.all_cons, List.all_nil, id, Bool.and_true])
  rw [HV.out] at HEv
  simp only [hsx]
  clear hA hbn hSn hAl hF hR hT hl HV hsx hbv
  go_wp2_with fail
  refine HEv.out.mono ?_
  rintro e w2 ⟨rfl, hb⟩
  have HE := Lib.hid (HBN.out.trans ((HAl.out.trans (hb.mono HAl.out.size)).mono HBN.out.size))
  clear hb HEv
  go_wp2_with fail
  go_ret
  exact ⟨by try rfl, HE.out⟩

set_option maxRecDepth 100000 in
set_option maxHeartbeats 4000000 in
theorem quiet_any (w : World) (s : Sn) (T : List Nat) (hl : T.length = s.an) (am : Option Addr) (nm cm : Nat) (zm : List MZ) (hm : MadeAt w am nm cm zm) (hnm : nm ≤ 100000) :
    Calls Tryz.prog 21 #[.agg (snCells s).toArray, .slice am nm cm] w (QuietEnd s T zm w) := by
  obtain ⟨tcUp, dcUp, ready, sync, base, stable, last, eosl, low, ca, cn, cc, aa, an, ac, fly⟩ := s
  simp only at hl
  unfold QuietEnd
  obtain ⟨bv, hbv⟩ : ∃ b, quietL (⟨tcUp, dcUp, ready, sync, base, stable, last, eosl, low, ca, cn, cc, aa, an, ac, fly⟩ : Sn) T zm = b := ⟨_, rfl⟩
  rw [hbv]
  show Calls Tryz.prog 21 #[.agg #[.bool tcUp, .bool dcUp, .bool ready, .bool sync, .int .u64 (base : Nat), .int .u64 (stable : Nat), .int .u64 (last : Nat), .int .u64 (eosl : Nat), .int .u64 (low : Nat), .slice ca cn cc, .slice aa an ac, .int .i64 fly], .slice am nm cm] w _
  have hA : Blk (w.alloc (.cells #[.bool tcUp, .bool dcUp, .bool ready, .bool sync, .int .u64 (base : Nat), .int .u64 (stable : Nat), .int .u64 (last : Nat), .int .u64 (eosl : Nat), .int .u64 (low : Nat), .slice ca cn cc, .slice aa an ac, .int .i64 fly] 47)) w.heap.size (snCells (⟨tcUp, dcUp, ready, sync, base, stable, last, eosl, low, ca, cn, cc, aa, an, ac, fly⟩ : Sn)) 47 := Blk.new w (snCells (⟨tcUp, dcUp, ready, sync, base, stable, last, eosl, low, ca, cn, cc, aa, an, ac, fly⟩ : Sn)) 47
  have hbn := (Below.refl w.heap.size w).alloc (Nat.le_refl _) (.cells #[.bool tcUp, .bool dcUp, .bool ready, .bool sync, .int .u64 (base : Nat), .int .u64 (stable : Nat), .int .u64 (last : Nat), .int .u64 (eosl : Nat), .int .u64 (low : Nat), .slice ca cn cc, .slice aa an ac, .int .i64 fly] 47)
  have hb2 := hbn.alloc hbn.size (.cells #[.slice am nm cm] 22)
  have q1 := (Below.refl (w.alloc (.cells #[.bool tcUp, .bool dcUp, .bool ready, .bool sync, .int .u64 (base : Nat), .int .u64 (stable : Nat), .int .u64 (last : Nat), .int .u64 (eosl : Nat), .int .u64 (low : Nat), .slice ca cn cc, .slice aa an ac, .int .i64 fly] 47)).heap.size (w.alloc (.cells #[.bool tcUp, .bool dcUp, .bool ready, .bool sync, .int .u64 (base : Nat), .int .u64 (stable : Nat), .int .u64 (last : Nat), .int .u64 (eosl : Nat), .int .u64 (low : Nat), .slice ca cn cc, .slice aa an ac, .int .i64 fly] 47))).alloc (Nat.le_refl _) (.cells #[.slice am nm cm] 22)
  have hA := hA.on q1
  have hM : Blk ((w.alloc (.cells #[.bool tcUp, .bool dcUp, .bool ready, .bool sync, .int .u64 (base : Nat), .int .u64 (stable : Nat), .int .u64 (last : Nat), .int .u64 (eosl : Nat), .int .u64 (low : Nat), .slice ca cn cc, .slice aa an ac, .int .i64 fly] 47)).alloc (.cells #[.slice am nm cm] 22)) _ [.slice am nm cm] 22 := Blk.new _ [.slice am nm cm] 22
  simp only [World.size_alloc] at hM
  go_enter Tryz.func21, Tryz.ntmps21
  go_upto_region 1 with fail
  generalize (w.alloc (.cells #[.bool tcUp, .bool dcUp, .bool ready, .bool sync, .int .u64 (base : Nat), .int .u64 (stable : Nat), .int .u64 (last : Nat), .int .u64 (eosl : Nat), .int .u64 (low : Nat), .slice ca cn cc, .slice aa an ac, .int .i64 fly] 47)).alloc (.cells #[.slice am nm cm] 22) = w1 at *
  have hSn : SnAt w1 w.heap.size (⟨tcUp, dcUp, ready, sync, base, stable, last, eosl, low, ca, cn, cc, aa, an, ac, fly⟩ : Sn) := ⟨hA⟩
  obtain ⟨sx, hsx⟩ : ∃ x, w.heap.size = x := ⟨_, rfl⟩
  have HBN := Lib.hid hb2
  rw [hsx] at hSn hM
  have hAl := (Below.refl w1.heap.size w1).alloc (Nat.le_refl _) (.cells #[.func (.func 52) #[] #[.pointer (some ⟨sx, 0, none⟩)], .func (.func 53) #[] #[.pointer (some ⟨sx, 0, none⟩)], .func (.func 54) #[] #[.pointer (some ⟨sx + 1, 0, none⟩)]] 28)
  have hF : Blk (w1.alloc (.cells #[.func (.func 52) #[] #[.pointer (some ⟨sx, 0, none⟩)], .func (.func 53) #[] #[.pointer (some ⟨sx, 0, none⟩)], .func (.func 54) #[] #[.pointer (some ⟨sx + 1, 0, none⟩)]] 28)) w1.heap.size ([.func (.func 52) #[] #[.pointer (some ⟨sx, 0, none⟩)], .func (.func 53) #[] #[.pointer (some ⟨sx, 0, none⟩)], .func (.func 54) #[] #[.pointer (some ⟨sx + 1, 0, none⟩)]] ++ []) 28 := Blk.new w1 _ _
  have hR := RowsAt.of_blk (k := 1) (n := 3) (c := 3) hF rfl (by omega) (by omega)
  have HEv := Lib.hid (every_any _ (some ⟨w1.heap.size, 0, none⟩) 3 3 _ [tcUp && (dcUp && (ready && decide (an = 0))), decide (low = eosl) && (decide (eosl = stable) && decide (stable = last)), zm.all fun q => q.1.dn] hR rfl (by omega) (fun k v b hv hb w' hw => by
    have hs := (hSn.on hAl).on hw
    have hMw := ((hM.on hAl).on hw)
    have hmw := ((hm.on hb2).on hAl).on hw
    match k, hv, hb with
    | 0, hv, hb => cases hv; cases hb; exact ask_any w' _ _ _ (quiet1_any w' sx _ hs) (enters_of Tryz.func52 (by kernel_rfl) rfl)
    | 1, hv, hb => cases hv; cases hb; exact ask_any w' _ _ _ (quiet2_any w' sx _ hs) (enters_of Tryz.func53 (by kernel_rfl) rfl)
    | 2, hv, hb => cases hv; cases hb; exact askB_any w' _ _ _ (quiet3_any w' (sx + 1) am nm cm zm hmw hnm (by rw [hMw.cell]; rfl)) (enters_of Tryz.func54 (by kernel_rfl) rfl)
    | k + 3, hv, hb => simp at hv))
  have HAl := Lib.hid hAl
  have HV := Lib.hid (show ([tcUp && (dcUp && (ready && decide (an = 0))), decide (low = eosl) && (decide (eosl = stable) && decide (stable = last)), zm.all fun q => q.1.dn] : List Bool).all id = bv from by
    rw [← hbv]
    show _ = ((tcUp && (dcUp && (ready && decide (T.length = 0)))) && ((decide (low = eosl) && (decide (eosl = stable) && decide (stable = last))) && zm.all fun q => q.1.dn))
    rw [hl]
    simp only [List.all_cons, List.all_nil, id, Bool.and_true])
  rw [HV.out] at HEv
  simp only [hsx]
  clear hA hbn hb2 q1 hM hSn hAl hF hR hm hl HV hsx hbv
  go_wp2_with fail
  refine HEv.out.mono ?_
  rintro e w2 ⟨rfl, hb⟩
  have HE := Lib.hid (HBN.out.trans ((HAl.out.trans (hb.mono HAl.out.size)).mono HBN.out.size))
  clear hb HEv
  go_wp2_with fail
  go_ret
  exact ⟨by try rfl, HE.out⟩

end Go.Proofs.YtecknikehieioaaGreat
