/-
  spec.replay's ended: are a transaction's entries what it wrote? Condition: at most a thousand operations.
-/
import Derived.Test.YtffianjbljgnaaaGreatRight3
namespace Go.Proofs.YtffianjbljgnaaaGreat
set_option linter.unusedVariables false
set_option linter.unusedSimpArgs false
open Go.RowKit Go.Maps

def okOp (W : List Rec) (seen : List Txt) (r : Rec) : Bool := match findR W r.key with
  | none => false
  | some x => !decide (r.key ∈ seen) && (decide (x.del = r.del) && decide (x.val = r.val))
def okOps (W : List Rec) (seen : List Txt) : List Rec → Bool
  | [] => true
  | r :: t => okOp W seen r && okOps W (r.key :: seen) t
def endedB (W : List Rec) : List Entry → Bool
  | [] => decide (W.length = 0)
  | [x] => !decide (W.length = 0) && (decide (x.ops.length = W.length) && okOps W [] x.ops)
  | _ => false
def seenF (S : List Txt) : Txt → Option Value := fun x => if x ∈ S then some (.int .i64 1) else none
theorem seen_store {w : World} {b n : Nat} {S : List Txt} (h : VMap textKey w b n (seenF S)) (hn : n ≤ 1000000) (k : Txt) (hk : k.length ≤ maxLen) :
    ∃ w' n', (Instr.mapUpdate 87 (.map (some b)) (.string ⟨k.toArray⟩) (.int .i64 1)).run Tryz.prog w = .ok () w' ∧ VMap textKey w' b n' (seenF (k :: S)) ∧ n' ≤ n + 1 ∧ Mod [b] w w' := by
  obtain ⟨w', hr, hm, hmod⟩ := h.store (e := 3) Tryz.underlying87 (by unfold maxLen; omega) k hk (.int .i64 1)
  refine ⟨w', _, hr, hm.congr (fun x => ?_), by split <;> omega, hmod⟩
  unfold seenF
  by_cases hx : x = k
  · simp [hx]
  · simp [hx]
theorem seen_look {w : World} {b n : Nat} {S : List Txt} (h : VMap textKey w b n (seenF S)) (k : Txt) (hk : k.length ≤ maxLen) :
    (Instr.lookup 87 (.map (some b)) (.string ⟨k.toArray⟩) false).run Tryz.prog w = .ok (.int .i64 (if k ∈ S then 1 else 0)) w := by
  have := h.look_run (e := 3) (z := .int .i64 0) Tryz.underlying87 (by kernel_rfl) k hk
  rw [show textKey.val k = .string ⟨k.toArray⟩ from rfl] at this
  rw [this]
  unfold seenF
  by_cases hx : k ∈ S
  · simp [hx]
  · simp [hx]
theorem WroteAt.len {w : World} {b : Nat} {W : List Rec} (h : WroteAt w b W) (ty : TypeId) : (Builtin.len_ #[56] ty #[.map (some b)]).run Tryz.prog w = .ok (.int .i64 W.length) w := h.map.len (e := 68) Tryz.underlying56 ty
def zeroR : Rec := ⟨[], 0, false, []⟩
theorem WroteAt.looks {w : World} {b : Nat} {W : List Rec} (h : WroteAt w b W) (k : Txt) (hk : k.length ≤ maxLen) :
    (Instr.lookup 56 (.map (some b)) (.string ⟨k.toArray⟩) true).run Tryz.prog w = .ok (.tuple #[recV ((findR W k).getD zeroR), .bool (findR W k).isSome]) w := by
  have := h.map.look_ok (e := 68) (z := recV zeroR) Tryz.underlying56 (by kernel_rfl) k hk
  rw [show textKey.val k = .string ⟨k.toArray⟩ from rfl] at this
  rw [this]
  cases findR W k <;> rfl
set_option maxRecDepth 100000 in
set_option maxHeartbeats 8000000 in
theorem ended_any (w : World) (rb sb wb : Nat) (M : List KV) (W : List Rec) (hR : RepAt w rb sb wb M W) (a : Option Addr) (n c : Nat) (z : List EZ) (h : EntsAt w a n c z) (hn : n ≤ 1000000) (hops : ∀ q ∈ z, q.2.ops.length ≤ 1000) :
    Calls Tryz.prog 20 #[.pointer (some ⟨rb, 0, none⟩), .slice a n c] w fun e w' => e = .returned (.bool (endedB W (z.map (·.2)))) ∧ Below w.heap.size w w' := by
  have kr : w.cell? ⟨rb, 1, none⟩ = some (.map (some wb)) := by rw [hR.blk.cell]; rfl
  have hlen : ∀ ty, (Builtin.len_ #[56] ty #[.map (some wb)]).run Tryz.prog w = .ok (.int .i64 W.length) w := fun ty => hR.wrote.len ty
  have HH := Lib.hid h
  have HR := Lib.hid hR
  have HO := Lib.hid hops
  clear h hR hops
  rcases Nat.eq_zero_or_pos n with h0 | h0
  · subst h0
    have hz : z = [] := List.eq_nil_of_length_eq_zero HH.out.len
    have HE := Lib.hid (show endedB W (z.map (·.2)) = decide (W.length = 0) by rw [hz]; rfl)
    clear hz
    go_enter Tryz.func20, Tryz.ntmps20
    by_cases hw : W.length = 0
    · have e0 : ((W.length : Int) == 0) = true := beq_iff_eq.2 (by omega)
      have HD := Lib.hid (show decide (W.length = 0) = true from decide_eq_true hw)
      clear hw
      go_wp2_with fail
      go_ret
      exact ⟨by rw [HE.out, HD.out]; try rfl, Below.refl _ _⟩
    · have e0 : ((W.length : Int) == 0) = false := beq_eq_false_iff_ne.2 (by omega)
      have HD := Lib.hid (show decide (W.length = 0) = false from decide_eq_false hw)
      clear hw
      go_wp2_with fail
      go_ret
      exact ⟨by rw [HE.out, HD.out]; try rfl, Below.refl _ _⟩
  · obtain ⟨q, g, o, hq, hqz, rfl, hg, c0, c1, c2⟩ := HH.out.row h0
    have hn0 : ((n : Int) == 0) = false := beq_eq_false_iff_ne.2 (by omega)
    have hnl : (0 : Int) < (n : Int) := by omega
    have e3 : o + 0 * 3 + 2 = o + 2 := by omega
    rw [e3] at c2
    clear e3 c0 c1
    have HQ := Lib.hid (HH.out.each q hqz)
    have HF := Lib.hid (show ∀ w', Below w.heap.size w w' → (w'.cell? ⟨rb, 1, none⟩ = some (.map (some wb)) ∧ w'.cell? ⟨g, o + 2, none⟩ = some (.slice q.1.a q.1.n q.1.c) ∧ ∀ ty, (Builtin.len_ #[56] ty #[.map (some wb)]).run Tryz.prog w' = .ok (.int .i64 W.length) w') from
      fun w' hb => ⟨by rw [(HR.out.blk.on hb).cell]; rfl, (hb.cell (p := ⟨g, o + 2, none⟩) hg).trans c2, fun ty => (HR.out.wrote.on hb).len ty⟩)
    clear kr hlen c2
    have HQ2 := Lib.hid hq
    have HQO := Lib.hid (HO.out q hqz)
    clear hq hqz
    go_enter Tryz.func20, Tryz.ntmps20
    go_upto_region 3 with fail
    by_cases h1 : 1 < n
    · have hgt : (1 : Int) < (n : Int) := by omega
      have HE := Lib.hid (show endedB W (z.map (·.2)) = false by
        have hl := HH.out.len
        match z, hl with
        | [], h => simp at h; omega
        | [_], h => simp at h; omega
        | _ :: _ :: _, _ => rfl)
      clear h1
      refine wp_region_settle (Below w.heap.size w) (by kernel_rfl) (by kernel_rfl) (by kernel_rfl) (below_drew (Below.refl _ _)) ?_
      repeat (first
        | (refine settled_not ?_ ?_
           · rfl
           simp only [Act.put, List.setIfInBounds_toArray, List.set_cons_zero, List.set_cons_succ])
        | (refine settled_val (v := ?_) ?_ (fun w' hS => ?_) ?_
           rotate_left
           · rfl
           · obtain ⟨k0, k1, k2⟩ := HF.out w' hS
             go_simp
             with_reducible rfl
           simp only [Act.put, List.setIfInBounds_toArray, List.set_cons_zero, List.set_cons_succ]))
      refine settled_nil (fun w2 hS => ?_)
      have HB := Lib.hid hS
      clear hS
      go_wp2_with fail
      go_ret
      exact ⟨by rw [HE.out]; try rfl, HB.out⟩
    · have hn1 : n = 1 := by omega
      subst hn1
      have hz : z = [q] := by
        have hl := HH.out.len
        have hq2 := HQ2.out
        match z, hl with
        | [x], _ => simp at hq2; rw [hq2]
      have HEn := Lib.hid (show endedB W (z.map (·.2)) = (!decide (W.length = 0) && (decide (q.2.ops.length = W.length) && okOps W [] q.2.ops)) by rw [hz]; rfl)
      clear h1 hz hn0 hn h0
      by_cases hw : W.length = 0
      · have e0 : ((W.length : Int) == 0) = true := beq_iff_eq.2 (by omega)
        have HE := Lib.hid (show endedB W (z.map (·.2)) = false by rw [HEn.out, decide_eq_true hw]; rfl)
        clear hw
        refine wp_region_settle (Below w.heap.size w) (by kernel_rfl) (by kernel_rfl) (by kernel_rfl) (below_drew (Below.refl _ _)) ?_
        repeat (first
          | (refine settled_not ?_ ?_
             · rfl
             simp only [Act.put, List.setIfInBounds_toArray, List.set_cons_zero, List.set_cons_succ])
          | (refine settled_val (v := ?_) ?_ (fun w' hS => ?_) ?_
             rotate_left
             · rfl
             · obtain ⟨k0, k1, k2⟩ := HF.out w' hS
               go_simp
               with_reducible rfl
             simp only [Act.put, List.setIfInBounds_toArray, List.set_cons_zero, List.set_cons_succ]))
        refine settled_nil (fun w2 hS => ?_)
        have HB := Lib.hid hS
        clear hS
        go_wp2_with fail
        go_ret
        exact ⟨by rw [HE.out]; try rfl, HB.out⟩
      · have e0 : ((W.length : Int) == 0) = false := beq_eq_false_iff_ne.2 (by omega)
        by_cases hl : q.2.ops.length = W.length
        · have e1 : ((q.1.n : Int) != (W.length : Int)) = false := by rw [HQ.out.n, hl]; simp
          have HE := Lib.hid (show endedB W (z.map (·.2)) = okOps W [] q.2.ops by rw [HEn.out, decide_eq_false hw, decide_eq_true hl]; simp)
          clear hw hl
          refine wp_region_settle (Below w.heap.size w) (by kernel_rfl) (by kernel_rfl) (by kernel_rfl) (below_drew (Below.refl _ _)) ?_
          repeat (first
            | (refine settled_not ?_ ?_
               · rfl
               simp only [Act.put, List.setIfInBounds_toArray, List.set_cons_zero, List.set_cons_succ])
            | (refine settled_val (v := ?_) ?_ (fun w' hS => ?_) ?_
               rotate_left
               · rfl
               · obtain ⟨k0, k1, k2⟩ := HF.out w' hS
                 go_simp
                 with_reducible rfl
               simp only [Act.put, List.setIfInBounds_toArray, List.set_cons_zero, List.set_cons_succ]))
          refine settled_nil (fun w2 hS => ?_)
          obtain ⟨k0, k1, k2⟩ := HF.out w2 hS
          have hM0 := VMap.made_run (w := w2) (k := 9) (e := 3) (t := 87) Tryz.underlying87
          have HS0 := Lib.hid ((VMap.made textKey w2).congr (g := seenF []) (fun x => by unfold seenF; simp))
          have hbn := (Below.refl w2.heap.size w2).alloc (Nat.le_refl _) (.map #[] 0)
          have HB0 := Lib.hid (hS.trans (hbn.mono hS.size))
          have kk : (w2.alloc (.map #[] 0)).cell? ⟨g, o + 2, none⟩ = some (.slice q.1.a q.1.n q.1.c) := (hbn.cell (p := ⟨g, o + 2, none⟩) (Nat.lt_of_lt_of_le hg hS.size)).trans k1
          have hs2 := hS.size
          clear hS hbn k0 k1 k2
          go_wp2_with fail
          clear hM0 kk e0 e1
          have hqn : q.1.n ≤ 1000 := by rw [HQ.out.n]; exact HQO.out
          go_loopw [4, 7, 8, 9, 49] (fun _ _ _ _ s49 wr => ∃ (j k : Nat) (S : List Txt), j ≤ q.1.n ∧ s49 = .int .i64 j ∧ VMap textKey wr w2.heap.size k (seenF S) ∧ k ≤ j ∧ okOps W [] q.2.ops = okOps W S (q.2.ops.drop j) ∧ Below w.heap.size w wr) (fun _ _ _ _ s49 _ => q.1.n - (intOf s49).toNat)
          case atStart => exact ⟨0, 0, [], by omega, rfl, HS0.out, by omega, rfl, HB0.out⟩
          case round =>
            obtain ⟨j, k, S, hj, rfl, hV, hk, hok, hb⟩ := hrel
            by_cases hlt : j < q.1.n
            · have hjl : (j : Int) < (q.1.n : Int) := by omega
              obtain ⟨r, g2, o2, hr, hrl, ha2, hg2, d0, d1, d2, d3⟩ := recs_row (HQ.out.rows.on hb) HQ.out.n hlt
              have HRk := Lib.hid (HQ.out.ok.ops r hrl).1
              have HOk := Lib.hid (show okOps W [] q.2.ops = (okOp W S r && okOps W (r.key :: S) (q.2.ops.drop (j + 1))) by
                obtain ⟨h1, rfl⟩ := List.getElem?_eq_some_iff.1 hr
                rw [hok, List.drop_eq_getElem_cons h1]; rfl)
              have hbn := (Below.refl wr.heap.size wr).alloc (Nat.le_refl _) (.cells #[.string ⟨r.key.toArray⟩, .int .u64 (r.lsn : Nat), .bool r.del, .string ⟨r.val.toArray⟩] 68)
              have hBx : Blk (wr.alloc (.cells #[.string ⟨r.key.toArray⟩, .int .u64 (r.lsn : Nat), .bool r.del, .string ⟨r.val.toArray⟩] 68)) wr.heap.size (recCells r) 68 := Blk.new wr (recCells r) _
              have HBx := Lib.hid hBx
              have HV := Lib.hid (hV.on hbn)
              have HBw := Lib.hid (hb.trans (hbn.mono hb.size))
              obtain ⟨⟨ets, ef, ea, en, ec⟩, x⟩ := q
              simp only at ha2 hjl hlt hj hr hrl hqn
              subst ha2
              clear hr hrl hok hV hb hbn hBx
              go_upto_region 9 with fail
              generalize hw3 : wr.alloc (.cells #[.string ⟨r.key.toArray⟩, .int .u64 (r.lsn : Nat), .bool r.del, .string ⟨r.val.toArray⟩] 68) = w3 at *
              have HW3 := Lib.hid (show wr.heap.size < w3.heap.size by rw [← hw3]; simp)
              clear hw3 d0 d1 d2 d3
              have HF9 := Lib.hid (show ∀ w', Below w3.heap.size w3 w' → (w'.cell? ⟨rb, 1, none⟩ = some (.map (some wb)) ∧ w'.cell? ⟨wr.heap.size, 0, none⟩ = some (.string ⟨r.key.toArray⟩) ∧ (Instr.lookup 56 (.map (some wb)) (.string ⟨r.key.toArray⟩) true).run Tryz.prog w' = .ok (.tuple #[recV ((findR W r.key).getD zeroR), .bool (findR W r.key).isSome]) w') from
                fun w' h => ⟨by rw [(HR.out.blk.on (HBw.out.trans (h.mono HBw.out.size))).cell]; rfl, by rw [(HBx.out.on h).cell]; rfl, (HR.out.wrote.on (HBw.out.trans (h.mono HBw.out.size))).looks r.key HRk.out⟩)
              have HOp := Lib.hid (show okOp W S r = ((findR W r.key).isSome && (!decide (r.key ∈ S) && (decide (((findR W r.key).getD zeroR).del = r.del) && decide (((findR W r.key).getD zeroR).val = r.val)))) by
                unfold okOp
                cases findR W r.key <;> rfl)
              unfold recV at HF9
              generalize (findR W r.key).getD zeroR = y at *
              generalize (findR W r.key).isSome = is at *
              refine wp_region_float [0, 1, 2, 3, 4, 5, 6, 7, 8, 9] [10, 11, 12] [12] (Below w3.heap.size w3) (by kernel_rfl) (by kernel_rfl) (by kernel_rfl) (by kernel_rfl) (fun c a d v w h => by cases d <;> exact h) (below_drew (Below.refl _ _)) ?_
              have hS : Below w3.heap.size w3 { w3 with drawn := w3.drawn + 1 } := below_drew (Below.refl _ _)
              generalize ({ w3 with drawn := w3.drawn + 1 } : World) = w4 at *
              simp only [pick, List.map_cons, List.map_nil, List.getD_cons_zero, List.getD_cons_succ]
              repeat (
                refine takes_val (v := ?_) ?_ (fun w' hS => ?_) ?_
                rotate_left
                · rfl
                · obtain ⟨k0, k1, k2⟩ := HF9.out w' hS
                  go_simp
                  with_reducible rfl
                simp only [Act.put, List.setIfInBounds_toArray, List.set_cons_zero, List.set_cons_succ])
              refine takes_nil ?_
              have hbz := (Below.refl w4.heap.size w4).alloc (Nat.le_refl _) (.cells #[.string ⟨#[]⟩, .int .u64 0, .bool false, .string ⟨#[]⟩] 68)
              refine seqW_step (by rfl) (fun K hK => ?_)
              go_simp
              refine hK.out _ _ (.inr (hS.trans (hbz.mono hS.size))) ?_
              clear hK K
              refine seqW_step (by rfl) (fun K hK => ?_)
              go_simp
              have hby := (Below.refl w4.heap.size w4).alloc (Nat.le_refl _) (.cells #[.string ⟨y.key.toArray⟩, .int .u64 (y.lsn : Nat), .bool y.del, .string ⟨y.val.toArray⟩] 68)
              refine hK.out _ _ (.inr (hS.trans (hby.mono hS.size))) ?_
              clear hK K
              refine seqW_step (by rfl) (fun K hK => ?_)
              go_simp
              refine hK.out _ _ (.inl (by rfl)) (seqW_nil ?_)
              clear hK K
              have hYx : Blk (w4.alloc (.cells #[.string ⟨y.key.toArray⟩, .int .u64 (y.lsn : Nat), .bool y.del, .string ⟨y.val.toArray⟩] 68)) w4.heap.size (recCells y) 68 := Blk.new w4 (recCells y) _
              have hb35 := hS.trans (hby.mono hS.size)
              obtain ⟨yb, hyb⟩ : ∃ yb, w4.heap.size = yb := ⟨_, rfl⟩
              rw [hyb] at hYx
              rw [hyb]
              generalize w4.alloc (.cells #[.string ⟨y.key.toArray⟩, .int .u64 (y.lsn : Nat), .bool y.del, .string ⟨y.val.toArray⟩] 68) = w5 at *
              have HB5 := Lib.hid hb35
              have hx5 := HBx.out.on hb35
              have c0 : w5.cell? ⟨wr.heap.size, 0, none⟩ = some (.string ⟨r.key.toArray⟩) := by rw [hx5.cell]; rfl
              have c2 : w5.cell? ⟨wr.heap.size, 2, none⟩ = some (.bool r.del) := by rw [hx5.cell]; rfl
              have c3 : w5.cell? ⟨wr.heap.size, 3, none⟩ = some (.string ⟨r.val.toArray⟩) := by rw [hx5.cell]; rfl
              have y2 : w5.cell? ⟨yb, 2, none⟩ = some (.bool y.del) := by rw [hYx.cell]; rfl
              have y3 : w5.cell? ⟨yb, 3, none⟩ = some (.string ⟨y.val.toArray⟩) := by rw [hYx.cell]; rfl
              have hlk := seen_look (HV.out.on hb35) r.key HRk.out
              clear hbz hby hYx hx5 hb35 hS HF9 hyb
              obtain ⟨w', k', hrun, hV', hk', hm'⟩ := seen_store (HV.out.on HB5.out) (by omega) r.key HRk.out
              have HV' := Lib.hid hV'
              have HBB := Lib.hid (show Below w.heap.size w w' from (HBw.out.trans (HB5.out.mono HBw.out.size)).trans (hm'.below (fun x hx => by simp at hx; omega) (HBw.out.trans (HB5.out.mono HBw.out.size)).size))
              have HRun := Lib.hid hrun
              clear hV' hm' hrun
              go_upto_region 10 with fail
              go_cut [85] (fun s85 wx => s85 = .bool (!okOp W S r) ∧ w5 = wx)
              case first =>
                cases is with
                | false =>
                  have HX := Lib.hid (show (!okOp W S r) = true by rw [HOp.out]; rfl)
                  go_wp2_with fail
                  go_meet
                  exact ⟨by rw [HX.out]; try rfl, rfl⟩
                | true =>
                  by_cases hin : r.key ∈ S
                  · rw [if_pos hin] at hlk
                    have HX := Lib.hid (show (!okOp W S r) = true by rw [HOp.out, decide_eq_true hin]; rfl)
                    clear hin
                    go_wp2_with fail
                    go_meet
                    exact ⟨by rw [HX.out]; try rfl, rfl⟩
                  · rw [if_neg hin] at hlk
                    by_cases hd : y.del = r.del
                    · rw [hd] at y2
                      by_cases hv : y.val = r.val
                      · have e2 : ((⟨y.val.toArray⟩ : ByteArray) != ⟨r.val.toArray⟩) = false := by rw [bytes_bne]; simp [hv]
                        have HX := Lib.hid (show (!okOp W S r) = false by rw [HOp.out, decide_eq_false hin, decide_eq_true hd, decide_eq_true hv]; rfl)
                        have HVal := Lib.hid hv
                        clear hin hd hv
                        go_wp2_with fail
                        go_meet
                        exact ⟨by rw [HX.out]; first | rfl | (simp [HVal.out]), rfl⟩
                      · have e2 : ((⟨y.val.toArray⟩ : ByteArray) != ⟨r.val.toArray⟩) = true := by rw [bytes_bne]; simp [hv]
                        have HX := Lib.hid (show (!okOp W S r) = true by rw [HOp.out, decide_eq_false hv]; simp)
                        have HVal := Lib.hid hv
                        clear hin hd hv
                        go_wp2_with fail
                        go_meet
                        exact ⟨by rw [HX.out]; first | rfl | (simp [HVal.out]), rfl⟩
                    · have HX := Lib.hid (show (!okOp W S r) = true by rw [HOp.out, decide_eq_false hd]; simp)
                      cases hrd : r.del with
                      | true =>
                        have hyd : y.del = false := by cases hq : y.del with | true => exact absurd (hq.trans hrd.symm) hd | false => rfl
                        rw [hrd] at c2
                        rw [hyd] at y2
                        clear hin hd hrd hyd
                        go_wp2_with fail
                        go_meet
                        exact ⟨by rw [HX.out]; try rfl, rfl⟩
                      | false =>
                        have hyd : y.del = true := by cases hq : y.del with | false => exact absurd (hq.trans hrd.symm) hd | true => rfl
                        rw [hrd] at c2
                        rw [hyd] at y2
                        clear hin hd hrd hyd
                        go_wp2_with fail
                        go_meet
                        exact ⟨by rw [HX.out]; try rfl, rfl⟩
              obtain ⟨rfl, rfl⟩ := hcut
              have hrun := HRun.out
              clear hlk y2 y3 c2 c3
              cases hop : okOp W S r with
              | true =>
                have HO2 := Lib.hid (show okOps W [] x.ops = okOps W (r.key :: S) (x.ops.drop (j + 1)) by have := HOk.out; rw [hop] at this; simpa using this)
                clear hop
                go_wp2_with fail
                go_roundw
                case rel => exact ⟨_, _, _, _, .int .i64 ((j : Int) + 1), ⟨j + 1, by omega, by go_num, k', r.key :: S, HV'.out, by omega, HO2.out, HBB.out⟩, rfl, rfl, rfl, rfl, rfl⟩
                case measure => simp [intOf]; omega
              | false =>
                have HO2 := Lib.hid (show okOps W [] x.ops = false by have := HOk.out; rw [hop] at this; simpa using this)
                have HB6 := Lib.hid (HBw.out.trans (HB5.out.mono HBw.out.size))
                clear hop hrun
                go_wp2_with fail
                go_ret
                exact ⟨by rw [HE.out, HO2.out]; try rfl, HB6.out⟩
            · have hge : ¬ (j : Int) < (q.1.n : Int) := by omega
              have HO2 := Lib.hid (show okOps W [] q.2.ops = true by
                have hjj : j = q.2.ops.length := by have := HQ.out.n; omega
                rw [hok, hjj, List.drop_eq_nil_of_le (Nat.le_refl _)]; rfl)
              have HB6 := Lib.hid hb
              clear hok hV hb
              go_wp2_with fail
              go_ret
              exact ⟨by rw [HE.out, HO2.out]; try rfl, HB6.out⟩
        · have e1 : ((q.1.n : Int) != (W.length : Int)) = true := bne_iff_ne.2 (by rw [HQ.out.n]; omega)
          have HE := Lib.hid (show endedB W (z.map (·.2)) = false by rw [HEn.out, decide_eq_false hl]; simp)
          clear hw hl
          refine wp_region_settle (Below w.heap.size w) (by kernel_rfl) (by kernel_rfl) (by kernel_rfl) (below_drew (Below.refl _ _)) ?_
          repeat (first
            | (refine settled_not ?_ ?_
               · rfl
               simp only [Act.put, List.setIfInBounds_toArray, List.set_cons_zero, List.set_cons_succ])
            | (refine settled_val (v := ?_) ?_ (fun w' hS => ?_) ?_
               rotate_left
               · rfl
               · obtain ⟨k0, k1, k2⟩ := HF.out w' hS
                 go_simp
                 with_reducible rfl
               simp only [Act.put, List.setIfInBounds_toArray, List.set_cons_zero, List.set_cons_succ]))
          refine settled_nil (fun w2 hS => ?_)
          have HB := Lib.hid hS
          clear hS
          go_wp2_with fail
          go_ret
          exact ⟨by rw [HE.out]; try rfl, HB.out⟩
end Go.Proofs.YtffianjbljgnaaaGreat
