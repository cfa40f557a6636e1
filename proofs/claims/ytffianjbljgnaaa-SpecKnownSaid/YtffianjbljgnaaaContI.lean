/-
  spec.Content's closure, and slices.IndexFunc over records. No condition.
-/
import Derived.Test.YtffianjbljgnaaaContM
namespace Go.Proofs.Ytffianjbljgnaaa
set_option linter.unusedVariables false
set_option linter.unusedSimpArgs false
open Go.RowKit Go.Maps

def thereF (N : List Rec) : Txt → Option Value := fun k => if knownR N k then some (.int .i64 1) else none
theorem there_store {w : World} {b n : Nat} {N : List Rec} (h : VMap textKey w b n (thereF N)) (hn : n ≤ 100000000000) (r : Rec) (hr : r.ok) :
    ∃ w' n', (Instr.mapUpdate 93 (.map (some b)) (.string ⟨r.key.toArray⟩) (.int .i64 1)).run Try.prog w = .ok () w' ∧ VMap textKey w' b n' (thereF (N ++ [r])) ∧ n' ≤ n + 1 ∧ Mod [b] w w' := by
  obtain ⟨w', hrun, hm, hmod⟩ := h.store (e := 3) Try.underlying93 (by unfold maxLen; omega) r.key hr.1 (.int .i64 1)
  refine ⟨w', _, hrun, hm.congr (fun x => ?_), by split <;> omega, hmod⟩
  unfold thereF knownR
  rw [List.any_append]
  by_cases hx : x = r.key
  · simp [hx]
  · have hx' : ¬ r.key = x := fun e => hx e.symm
    simp [hx, hx']
theorem there_look {w : World} {b n : Nat} {N : List Rec} (h : VMap textKey w b n (thereF N)) (k : Txt) (hk : k.length ≤ maxLen) :
    (Instr.lookup 93 (.map (some b)) (.string ⟨k.toArray⟩) false).run Try.prog w = .ok (.int .i64 (if knownR N k then 1 else 0)) w := by
  have := h.look_run (e := 3) (z := .int .i64 0) Try.underlying93 (by kernel_rfl) k hk
  rw [show textKey.val k = .string ⟨k.toArray⟩ from rfl] at this
  rw [this]
  unfold thereF
  cases knownR N k <;> rfl
/-- The three maps, in their boxes. -/
structure Boxes (w : World) (tx dx gx tb db gb : Nat) (N A : List Rec) : Prop where
  t : w.cell? ⟨tx, 0, none⟩ = some (.map (some tb))
  d : w.cell? ⟨dx, 0, none⟩ = some (.map (some db))
  g : w.cell? ⟨gx, 0, none⟩ = some (.map (some gb))
  tl : tx < w.heap.size
  dl : dx < w.heap.size
  gl : gx < w.heap.size
  there : ∃ n, VMap textKey w tb n (thereF N)
  del : ∃ n, VMap textKey w db n (delF A)
  gone : ∃ n, VMap textKey w gb n (goneF A)
theorem Boxes.on {w w' : World} {tx dx gx tb db gb : Nat} {N A : List Rec} (h : Boxes w tx dx gx tb db gb N A) (hb : Below w.heap.size w w') : Boxes w' tx dx gx tb db gb N A := by
  obtain ⟨n1, h1⟩ := h.there
  obtain ⟨n2, h2⟩ := h.del
  obtain ⟨n3, h3⟩ := h.gone
  exact ⟨(hb.cell (p := ⟨tx, 0, none⟩) h.tl).trans h.t, (hb.cell (p := ⟨dx, 0, none⟩) h.dl).trans h.d, (hb.cell (p := ⟨gx, 0, none⟩) h.gl).trans h.g, Nat.lt_of_lt_of_le h.tl hb.size, Nat.lt_of_lt_of_le h.dl hb.size, Nat.lt_of_lt_of_le h.gl hb.size, ⟨n1, h1.on hb⟩, ⟨n2, h2.on hb⟩, ⟨n3, h3.on hb⟩⟩
set_option maxRecDepth 100000 in
set_option maxHeartbeats 4000000 in
theorem content1_any (w : World) (tx dx gx tb db gb : Nat) (N A : List Rec) (h : Boxes w tx dx gx tb db gb N A) (r : Rec) (hr : r.ok) :
    Calls Try.prog 40 #[.agg #[.string ⟨r.key.toArray⟩, .int .u64 (r.lsn : Nat), .bool r.del, .string ⟨r.val.toArray⟩], .pointer (some ⟨tx, 0, none⟩), .pointer (some ⟨dx, 0, none⟩), .pointer (some ⟨gx, 0, none⟩)] w fun e w' => e = .returned (.bool (askW N A r)) ∧ Below w.heap.size w w' := by
  obtain ⟨rk, rl, rd, rv⟩ := r
  have hbn := (Below.refl w.heap.size w).alloc (Nat.le_refl _) (.cells #[.string ⟨rk.toArray⟩, .int .u64 (rl : Nat), .bool rd, .string ⟨rv.toArray⟩] 58)
  have hA : Blk (w.alloc (.cells #[.string ⟨rk.toArray⟩, .int .u64 (rl : Nat), .bool rd, .string ⟨rv.toArray⟩] 58)) w.heap.size [.string ⟨rk.toArray⟩, .int .u64 (rl : Nat), .bool rd, .string ⟨rv.toArray⟩] 58 := Blk.new w [.string ⟨rk.toArray⟩, .int .u64 (rl : Nat), .bool rd, .string ⟨rv.toArray⟩] 58
  have H2 := Lib.hid (h.on hbn)
  have HA := Lib.hid hA
  have HB := Lib.hid hbn
  have HR := Lib.hid hr
  clear h hA hbn hr
  go_enter Try.func40, Try.ntmps40
  go_upto_region 1 with fail
  generalize w.alloc (.cells #[.string ⟨rk.toArray⟩, .int .u64 (rl : Nat), .bool rd, .string ⟨rv.toArray⟩] 58) = w1 at *
  have c0 : w1.cell? ⟨w.heap.size, 0, none⟩ = some (.string ⟨rk.toArray⟩) := by rw [HA.out.cell]; rfl
  have c1 : w1.cell? ⟨w.heap.size, 1, none⟩ = some (.int .u64 (rl : Nat)) := by rw [HA.out.cell]; rfl
  have c2 : w1.cell? ⟨w.heap.size, 2, none⟩ = some (.bool rd) := by rw [HA.out.cell]; rfl
  have b0 := H2.out.t
  have b1 := H2.out.d
  have b2 := H2.out.g
  obtain ⟨nt, ht⟩ := H2.out.there
  obtain ⟨nd, hd⟩ := H2.out.del
  obtain ⟨ng, hg⟩ := H2.out.gone
  have l0 := there_look ht rk HR.out.1
  have l1 := del_look hd rk HR.out.1
  have l2 := gone_look hg rk HR.out.1
  clear ht hd hg
  have HX := Lib.hid (show askW N A ⟨rk, rl, rd, rv⟩ = (!rd && !knownR N rk && !(delR A rk && decide (rl ≤ gmax A rk))) from rfl)
  generalize gmax A rk = gm at *
  cases rd with
  | true =>
    have HY := Lib.hid (show askW N A ⟨rk, rl, true, rv⟩ = false by rw [HX.out]; rfl)
    clear l0 l1 l2
    go_wp2_with fail
    go_ret
    exact ⟨by rw [HY.out]; try rfl, HB.out⟩
  | false =>
    cases hk : knownR N rk with
    | true =>
      rw [hk, if_pos rfl] at l0
      have HY := Lib.hid (show askW N A ⟨rk, rl, false, rv⟩ = false by rw [HX.out, hk]; rfl)
      clear l1 l2 hk
      go_wp2_with fail
      go_ret
      exact ⟨by rw [HY.out]; try rfl, HB.out⟩
    | false =>
      rw [hk, if_neg (by decide)] at l0
      cases hd : delR A rk with
      | true =>
        rw [hd, if_pos rfl] at l1
        by_cases hl : rl ≤ gm
        · have hge : (rl : Int) ≤ (gm : Int) := by omega
          have HY := Lib.hid (show askW N A ⟨rk, rl, false, rv⟩ = false by rw [HX.out, hk, hd, decide_eq_true hl]; rfl)
          clear hk hd hl
          go_wp2_with fail
          go_ret
          exact ⟨by rw [HY.out]; try rfl, HB.out⟩
        · have hge : ¬ (rl : Int) ≤ (gm : Int) := by omega
          have HY := Lib.hid (show askW N A ⟨rk, rl, false, rv⟩ = true by rw [HX.out, hk, hd, decide_eq_false hl]; rfl)
          clear hk hd hl
          go_wp2_with fail
          go_ret
          exact ⟨by rw [HY.out]; try rfl, HB.out⟩
      | false =>
        rw [hd, if_neg (by decide)] at l1
        have HY := Lib.hid (show askW N A ⟨rk, rl, false, rv⟩ = true by rw [HX.out, hk, hd]; rfl)
        clear hk hd l2
        go_wp2_with fail
        go_ret
        exact ⟨by rw [HY.out]; try rfl, HB.out⟩
theorem firstR_step (f : Rec → Bool) (l : List Rec) (i : Nat) (r : Rec) (h : l[i]? = some r) : firstR f i (l.drop i) = if f r then (i : Int) else firstR f (i + 1) (l.drop (i + 1)) := by
  obtain ⟨h1, rfl⟩ := List.getElem?_eq_some_iff.1 h
  rw [List.drop_eq_getElem_cons h1]
  rfl
set_option maxRecDepth 100000 in
set_option maxHeartbeats 4000000 in
theorem indexR_any (w : World) (tx dx gx tb db gb : Nat) (N A : List Rec) (h : Boxes w tx dx gx tb db gb N A)
    (aw : Option Addr) (nw cw : Nat) (W : List Rec) (hW : RowsAt w aw nw cw 4 (recsCells W)) (eW : nw = W.length) (bW : nw ≤ 1000000) (hok : ∀ r ∈ W, r.ok) :
    Calls Try.prog 39 #[.slice aw nw cw, .func (.func 40) #[] #[.pointer (some ⟨tx, 0, none⟩), .pointer (some ⟨dx, 0, none⟩), .pointer (some ⟨gx, 0, none⟩)]] w fun e w' => e = .returned (.int .i64 (firstR (askW N A) 0 W)) ∧ Below w.heap.size w w' := by
  have H := Lib.hid h
  have HW := Lib.hid hW
  have EW := Lib.hid eW
  have HO := Lib.hid hok
  clear h hW eW hok
  go_enter Try.func39, Try.ntmps39
  go_wp2_with fail
  go_loopw [4, 5, 8] (fun _ _ s8 wr => ∃ i : Nat, i ≤ nw ∧ s8 = .int .i64 i ∧ firstR (askW N A) 0 W = firstR (askW N A) i (W.drop i) ∧ Below w.heap.size w wr) (fun _ _ s8 _ => nw - (intOf s8).toNat)
  case atStart => exact ⟨0, by omega, rfl, rfl, Below.refl _ _⟩
  case round =>
    obtain ⟨i, hi, rfl, hfi, hb⟩ := hrel
    by_cases hlt : i < nw
    · have hil : (i : Int) < (nw : Int) := by omega
      obtain ⟨r, g, o, hr, hrl, rfl, hg, d0, d1, d2, d3⟩ := recs_row (HW.out.on hb) EW.out hlt
      have HN := Lib.hid (show firstR (askW N A) 0 W = if askW N A r then (i : Int) else firstR (askW N A) (i + 1) (W.drop (i + 1)) by rw [hfi, firstR_step _ _ _ _ hr])
      have HS := Lib.hid (content1_any wr tx dx gx tb db gb N A (H.out.on hb) r (HO.out r hrl))
      obtain ⟨rk, rl, rd, rv⟩ := r
      simp only at d0 d1 d2 d3 HS
      have HB := Lib.hid hb
      clear hfi hr hrl hb
      go_wp2_with fail
      refine HS.out.mono ?_
      rintro e w2 ⟨rfl, hb2⟩
      have HB2 := Lib.hid (HB.out.trans (hb2.mono HB.out.size))
      clear hb2
      cases hak : askW N A ⟨rk, rl, rd, rv⟩ with
      | true =>
        have HR := Lib.hid (show firstR (askW N A) 0 W = (i : Int) by rw [HN.out, hak]; rfl)
        clear hak
        go_wp2_with fail
        go_ret
        exact ⟨by rw [HR.out]; try rfl, HB2.out⟩
      | false =>
        have HR := Lib.hid (show firstR (askW N A) 0 W = firstR (askW N A) (i + 1) (W.drop (i + 1)) by rw [HN.out, hak]; rfl)
        clear hak
        go_wp2_with fail
        go_roundw
        case rel => exact ⟨i + 1, by omega, by go_num, HR.out, HB2.out⟩
        case measure => simp [intOf]; omega
    · have hge : ¬ (i : Int) < (nw : Int) := by omega
      have HR := Lib.hid (show firstR (askW N A) 0 W = -1 by
        have hin : i = W.length := by rw [← EW.out]; omega
        rw [hfi, hin, List.drop_eq_nil_of_le (Nat.le_refl _)]; rfl)
      have HB := Lib.hid hb
      clear hfi hb
      go_wp2_with fail
      go_ret
      exact ⟨by rw [HR.out]; try rfl, HB.out⟩
end Go.Proofs.Ytffianjbljgnaaa
