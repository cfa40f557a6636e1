/-
  Texts folded into one: Ended, Index, Of, Serial.
-/
import Derived.Test.YtffianjbljgnaaaRight3

/-! ### Ended -/
namespace Go.Proofs.Ytffianjbljgnaaa
set_option linter.unusedVariables false
set_option linter.unusedSimpArgs false
open Go.RowKit Go.Maps

def okOp (W : List Rec) (seen : List Txt) (r : Rec) : Bool := match findR W r.key with
  | none => false
  | some x => !decide (r.key ∈ seen) && (decide (x.del = r.del) && decide (x.val = r.val))
def okOps (W : List Rec) (seen : List Txt) : List Rec → Bool
  | [] => true
  | r :: t => okOp W seen r && okOps W (r.key :: seen) t
def endedB (W : List Rec) : List Entry → Bool
  | [] => decide (W.length = 0)
  | [x] => !decide (W.length = 0) && (decide (x.ops.length = W.length) && okOps W [] x.ops)
  | _ => false
def seenF (S : List Txt) : Txt → Option Value := fun x => if x ∈ S then some (.int .i64 1) else none
theorem seen_store {w : World} {b n : Nat} {S : List Txt} (h : VMap textKey w b n (seenF S)) (hn : n ≤ 1000000) (k : Txt) (hk : k.length ≤ maxLen) :
    ∃ w' n', (Instr.mapUpdate 93 (.map (some b)) (.string ⟨k.toArray⟩) (.int .i64 1)).run Try.prog w = .ok () w' ∧ VMap textKey w' b n' (seenF (k :: S)) ∧ n' ≤ n + 1 ∧ Mod [b] w w' := by
  obtain ⟨w', hr, hm, hmod⟩ := h.store (e := 3) Try.underlying93 (by unfold maxLen; omega) k hk (.int .i64 1)
  refine ⟨w', _, hr, hm.congr (fun x => ?_), by split <;> omega, hmod⟩
  unfold seenF
  by_cases hx : x = k
  · simp [hx]
  · simp [hx]
theorem seen_look {w : World} {b n : Nat} {S : List Txt} (h : VMap textKey w b n (seenF S)) (k : Txt) (hk : k.length ≤ maxLen) :
    (Instr.lookup 93 (.map (some b)) (.string ⟨k.toArray⟩) false).run Try.prog w = .ok (.int .i64 (if k ∈ S then 1 else 0)) w := by
  have := h.look_run (e := 3) (z := .int .i64 0) Try.underlying93 (by kernel_rfl) k hk
  rw [show textKey.val k = .string ⟨k.toArray⟩ from rfl] at this
  rw [this]
  unfold seenF
  by_cases hx : k ∈ S
  · simp [hx]
  · simp [hx]
theorem WroteAt.len {w : World} {b : Nat} {W : List Rec} (h : WroteAt w b W) (ty : TypeId) : (Builtin.len_ #[73] ty #[.map (some b)]).run Try.prog w = .ok (.int .i64 W.length) w := h.map.len (e := 58) Try.underlying73 ty
def zeroR : Rec := ⟨[], 0, false, []⟩
theorem WroteAt.looks {w : World} {b : Nat} {W : List Rec} (h : WroteAt w b W) (k : Txt) (hk : k.length ≤ maxLen) :
    (Instr.lookup 73 (.map (some b)) (.string ⟨k.toArray⟩) true).run Try.prog w = .ok (.tuple #[recV ((findR W k).getD zeroR), .bool (findR W k).isSome]) w := by
  have := h.map.look_ok (e := 58) (z := recV zeroR) Try.underlying73 (by kernel_rfl) k hk
  rw [show textKey.val k = .string ⟨k.toArray⟩ from rfl] at this
  rw [this]
  cases findR W k <;> rfl
set_option maxRecDepth 100000 in
set_option maxHeartbeats 8000000 in
theorem ended_any (w : World) (rb sb wb : Nat) (M : List KV) (W : List Rec) (hR : RepAt w rb sb wb M W) (a : Option Addr) (n c : Nat) (z : List EZ) (h : EntsAt w a n c z) (hn : n ≤ 1000000) (hops : ∀ q ∈ z, q.2.ops.length ≤ 1000) :
    Calls Try.prog 29 #[.pointer (some ⟨rb, 0, none⟩), .slice a n c] w fun e w' => e = .returned (.bool (endedB W (z.map (·.2)))) ∧ Below w.heap.size w w' := by
  have kr : w.cell? ⟨rb, 1, none⟩ = some (.map (some wb)) := by rw [hR.blk.cell]; rfl
  have hlen : ∀ ty, (Builtin.len_ #[73] ty #[.map (some wb)]).run Try.prog w = .ok (.int .i64 W.length) w := fun ty => hR.wrote.len ty
  have HH := Lib.hid h
  have HR := Lib.hid hR
  have HO := Lib.hid hops
  clear h hR hops
  rcases Nat.eq_zero_or_pos n with h0 | h0
  · subst h0
    have hz : z = [] := List.eq_nil_of_length_eq_zero HH.out.len
    have HE := Lib.hid (show endedB W (z.map (·.2)) = decide (W.length = 0) by rw [hz]; rfl)
    clear hz
    go_enter Try.func29, Try.ntmps29
    by_cases hw : W.length = 0
    · have e0 : ((W.length : Int) == 0) = true := beq_iff_eq.2 (by omega)
      have HD := Lib.hid (show decide (W.length = 0) = true from decide_eq_true hw)
      clear hw
      go_wp2_with fail
      go_ret
      exact ⟨by rw [HE.out, HD.out]; try rfl, Below.refl _ _⟩
    · have e0 : ((W.length : Int) == 0) = false := beq_eq_false_iff_ne.2 (by omega)
      have HD := Lib.hid (show decide (W.length = 0) = false from decide_eq_false hw)
      clear hw
      go_wp2_with fail
      go_ret
      exact ⟨by rw [HE.out, HD.out]; try rfl, Below.refl _ _⟩
  · obtain ⟨q, g, o, hq, hqz, rfl, hg, c0, c1, c2⟩ := HH.out.row h0
    have hn0 : ((n : Int) == 0) = false := beq_eq_false_iff_ne.2 (by omega)
    have hnl : (0 : Int) < (n : Int) := by omega
    have e3 : o + 0 * 3 + 2 = o + 2 := by omega
    rw [e3] at c2
    clear e3 c0 c1
    have HQ := Lib.hid (HH.out.each q hqz)
    have HF := Lib.hid (show ∀ w', Below w.heap.size w w' → (w'.cell? ⟨rb, 1, none⟩ = some (.map (some wb)) ∧ w'.cell? ⟨g, o + 2, none⟩ = some (.slice q.1.a q.1.n q.1.c) ∧ ∀ ty, (Builtin.len_ #[73] ty #[.map (some wb)]).run Try.prog w' = .ok (.int .i64 W.length) w') from
      fun w' hb => ⟨by rw [(HR.out.blk.on hb).cell]; rfl, (hb.cell (p := ⟨g, o + 2, none⟩) hg).trans c2, fun ty => (HR.out.wrote.on hb).len ty⟩)
    clear kr hlen c2
    have HQ2 := Lib.hid hq
    have HQO := Lib.hid (HO.out q hqz)
    clear hq hqz
    go_enter Try.func29, Try.ntmps29
    go_upto_region 3 with fail
    by_cases h1 : 1 < n
    · have hgt : (1 : Int) < (n : Int) := by omega
      have HE := Lib.hid (show endedB W (z.map (·.2)) = false by
        have hl := HH.out.len
        match z, hl with
        | [], h => simp at h; omega
        | [_], h => simp at h; omega
        | _ :: _ :: _, _ => rfl)
      clear h1
      refine wp_region_settle (Below w.heap.size w) (by kernel_rfl) (by kernel_rfl) (by kernel_rfl) (below_drew (Below.refl _ _)) ?_
      repeat (first
        | (refine settled_not ?_ ?_
           · rfl
           simp only [Act.put, List.setIfInBounds_toArray, List.set_cons_zero, List.set_cons_succ])
        | (refine settled_val (v := ?_) ?_ (fun w' hS => ?_) ?_
           rotate_left
           · rfl
           · obtain ⟨k0, k1, k2⟩ := HF.out w' hS
             go_simp
             with_reducible rfl
           simp only [Act.put, List.setIfInBounds_toArray, List.set_cons_zero, List.set_cons_succ]))
      refine settled_nil (fun w2 hS => ?_)
      have HB := Lib.hid hS
      clear hS
      go_wp2_with fail
      go_ret
      exact ⟨by rw [HE.out]; try rfl, HB.out⟩
    · have hn1 : n = 1 := by omega
      subst hn1
      have hz : z = [q] := by
        have hl := HH.out.len
        have hq2 := HQ2.out
        match z, hl with
        | [x], _ => simp at hq2; rw [hq2]
      have HEn := Lib.hid (show endedB W (z.map (·.2)) = (!decide (W.length = 0) && (decide (q.2.ops.length = W.length) && okOps W [] q.2.ops)) by rw [hz]; rfl)
      clear h1 hz hn0 hn h0
      by_cases hw : W.length = 0
      · have e0 : ((W.length : Int) == 0) = true := beq_iff_eq.2 (by omega)
        have HE := Lib.hid (show endedB W (z.map (·.2)) = false by rw [HEn.out, decide_eq_true hw]; rfl)
        clear hw
        refine wp_region_settle (Below w.heap.size w) (by kernel_rfl) (by kernel_rfl) (by kernel_rfl) (below_drew (Below.refl _ _)) ?_
        repeat (first
          | (refine settled_not ?_ ?_
             · rfl
             simp only [Act.put, List.setIfInBounds_toArray, List.set_cons_zero, List.set_cons_succ])
          | (refine settled_val (v := ?_) ?_ (fun w' hS => ?_) ?_
             rotate_left
             · rfl
             · obtain ⟨k0, k1, k2⟩ := HF.out w' hS
               go_simp
               with_reducible rfl
             simp only [Act.put, List.setIfInBounds_toArray, List.set_cons_zero, List.set_cons_succ]))
        refine settled_nil (fun w2 hS => ?_)
        have HB := Lib.hid hS
        clear hS
        go_wp2_with fail
        go_ret
        exact ⟨by rw [HE.out]; try rfl, HB.out⟩
      · have e0 : ((W.length : Int) == 0) = false := beq_eq_false_iff_ne.2 (by omega)
        by_cases hl : q.2.ops.length = W.length
        · have e1 : ((q.1.n : Int) != (W.length : Int)) = false := by rw [HQ.out.n, hl]; simp
          have HE := Lib.hid (show endedB W (z.map (·.2)) = okOps W [] q.2.ops by rw [HEn.out, decide_eq_false hw, decide_eq_true hl]; simp)
          clear hw hl
          refine wp_region_settle (Below w.heap.size w) (by kernel_rfl) (by kernel_rfl) (by kernel_rfl) (below_drew (Below.refl _ _)) ?_
          repeat (first
            | (refine settled_not ?_ ?_
               · rfl
               simp only [Act.put, List.setIfInBounds_toArray, List.set_cons_zero, List.set_cons_succ])
            | (refine settled_val (v := ?_) ?_ (fun w' hS => ?_) ?_
               rotate_left
               · rfl
               · obtain ⟨k0, k1, k2⟩ := HF.out w' hS
                 go_simp
                 with_reducible rfl
               simp only [Act.put, List.setIfInBounds_toArray, List.set_cons_zero, List.set_cons_succ]))
          refine settled_nil (fun w2 hS => ?_)
          obtain ⟨k0, k1, k2⟩ := HF.out w2 hS
          have hM0 := VMap.made_run (w := w2) (k := 9) (e := 3) (t := 93) Try.underlying93
          have HS0 := Lib.hid ((VMap.made textKey w2).congr (g := seenF []) (fun x => by unfold seenF; simp))
          have hbn := (Below.refl w2.heap.size w2).alloc (Nat.le_refl _) (.map #[] 0)
          have HB0 := Lib.hid (hS.trans (hbn.mono hS.size))
          have kk : (w2.alloc (.map #[] 0)).cell? ⟨g, o + 2, none⟩ = some (.slice q.1.a q.1.n q.1.c) := (hbn.cell (p := ⟨g, o + 2, none⟩) (Nat.lt_of_lt_of_le hg hS.size)).trans k1
          have hs2 := hS.size
          clear hS hbn k0 k1 k2
          go_wp2_with fail
          clear hM0 kk e0 e1
          have hqn : q.1.n ≤ 1000 := by rw [HQ.out.n]; exact HQO.out
          go_loopw [4, 7, 8, 9, 49] (fun _ _ _ _ s49 wr => ∃ (j k : Nat) (S : List Txt), j ≤ q.1.n ∧ s49 = .int .i64 j ∧ VMap textKey wr w2.heap.size k (seenF S) ∧ k ≤ j ∧ okOps W [] q.2.ops = okOps W S (q.2.ops.drop j) ∧ Below w.heap.size w wr) (fun _ _ _ _ s49 _ => q.1.n - (intOf s49).toNat)
          case atStart => exact ⟨0, 0, [], by omega, rfl, HS0.out, by omega, rfl, HB0.out⟩
          case round =>
            obtain ⟨j, k, S, hj, rfl, hV, hk, hok, hb⟩ := hrel
            by_cases hlt : j < q.1.n
            · have hjl : (j : Int) < (q.1.n : Int) := by omega
              obtain ⟨r, g2, o2, hr, hrl, ha2, hg2, d0, d1, d2, d3⟩ := recs_row (HQ.out.rows.on hb) HQ.out.n hlt
              have HRk := Lib.hid (HQ.out.ok.ops r hrl).1
              have HOk := Lib.hid (show okOps W [] q.2.ops = (okOp W S r && okOps W (r.key :: S) (q.2.ops.drop (j + 1))) by
                obtain ⟨h1, rfl⟩ := List.getElem?_eq_some_iff.1 hr
                rw [hok, List.drop_eq_getElem_cons h1]; rfl)
              have hbn := (Below.refl wr.heap.size wr).alloc (Nat.le_refl _) (.cells #[.string ⟨r.key.toArray⟩, .int .u64 (r.lsn : Nat), .bool r.del, .string ⟨r.val.toArray⟩] 58)
              have hBx : Blk (wr.alloc (.cells #[.string ⟨r.key.toArray⟩, .int .u64 (r.lsn : Nat), .bool r.del, .string ⟨r.val.toArray⟩] 58)) wr.heap.size (recCells r) 58 := Blk.new wr (recCells r) _
              have HBx := Lib.hid hBx
              have HV := Lib.hid (hV.on hbn)
              have HBw := Lib.hid (hb.trans (hbn.mono hb.size))
              obtain ⟨⟨ets, ef, ea, en, ec⟩, x⟩ := q
              simp only at ha2 hjl hlt hj hr hrl hqn
              subst ha2
              clear hr hrl hok hV hb hbn hBx
              go_upto_region 9 with fail
              generalize hw3 : wr.alloc (.cells #[.string ⟨r.key.toArray⟩, .int .u64 (r.lsn : Nat), .bool r.del, .string ⟨r.val.toArray⟩] 58) = w3 at *
              have HW3 := Lib.hid (show wr.heap.size < w3.heap.size by rw [← hw3]; simp)
              clear hw3 d0 d1 d2 d3
              have HF9 := Lib.hid (show ∀ w', Below w3.heap.size w3 w' → (w'.cell? ⟨rb, 1, none⟩ = some (.map (some wb)) ∧ w'.cell? ⟨wr.heap.size, 0, none⟩ = some (.string ⟨r.key.toArray⟩) ∧ (Instr.lookup 73 (.map (some wb)) (.string ⟨r.key.toArray⟩) true).run Try.prog w' = .ok (.tuple #[recV ((findR W r.key).getD zeroR), .bool (findR W r.key).isSome]) w') from
                fun w' h => ⟨by rw [(HR.out.blk.on (HBw.out.trans (h.mono HBw.out.size))).cell]; rfl, by rw [(HBx.out.on h).cell]; rfl, (HR.out.wrote.on (HBw.out.trans (h.mono HBw.out.size))).looks r.key HRk.out⟩)
              have HOp := Lib.hid (show okOp W S r = ((findR W r.key).isSome && (!decide (r.key ∈ S) && (decide (((findR W r.key).getD zeroR).del = r.del) && decide (((findR W r.key).getD zeroR).val = r.val)))) by
                unfold okOp
                cases findR W r.key <;> rfl)
              unfold recV at HF9
              generalize (findR W r.key).getD zeroR = y at *
              generalize (findR W r.key).isSome = is at *
              refine wp_region_float [0, 1, 2, 3, 4, 5, 6, 7, 8, 9] [10, 11, 12] [12] (Below w3.heap.size w3) (by kernel_rfl) (by kernel_rfl) (by kernel_rfl) (by kernel_rfl) (fun c a d v w h => by cases d <;> exact h) (below_drew (Below.refl _ _)) ?_
              have hS : Below w3.heap.size w3 { w3 with drawn := w3.drawn + 1 } := below_drew (Below.refl _ _)
              generalize ({ w3 with drawn := w3.drawn + 1 } : World) = w4 at *
              simp only [pick, List.map_cons, List.map_nil, List.getD_cons_zero, List.getD_cons_succ]
              repeat (
                refine takes_val (v := ?_) ?_ (fun w' hS => ?_) ?_
                rotate_left
                · rfl
                · obtain ⟨k0, k1, k2⟩ := HF9.out w' hS
                  go_simp
                  with_reducible rfl
                simp only [Act.put, List.setIfInBounds_toArray, List.set_cons_zero, List.set_cons_succ])
              refine takes_nil ?_
              have hbz := (Below.refl w4.heap.size w4).alloc (Nat.le_refl _) (.cells #[.string ⟨#[]⟩, .int .u64 0, .bool false, .string ⟨#[]⟩] 58)
              refine seqW_step (by rfl) (fun K hK => ?_)
              go_simp
              refine hK.out _ _ (.inr (hS.trans (hbz.mono hS.size))) ?_
              clear hK K
              refine seqW_step (by rfl) (fun K hK => ?_)
              go_simp
              have hby := (Below.refl w4.heap.size w4).alloc (Nat.le_refl _) (.cells #[.string ⟨y.key.toArray⟩, .int .u64 (y.lsn : Nat), .bool y.del, .string ⟨y.val.toArray⟩] 58)
              refine hK.out _ _ (.inr (hS.trans (hby.mono hS.size))) ?_
              clear hK K
              refine seqW_step (by rfl) (fun K hK => ?_)
              go_simp
              refine hK.out _ _ (.inl (by rfl)) (seqW_nil ?_)
              clear hK K
              have hYx : Blk (w4.alloc (.cells #[.string ⟨y.key.toArray⟩, .int .u64 (y.lsn : Nat), .bool y.del, .string ⟨y.val.toArray⟩] 58)) w4.heap.size (recCells y) 58 := Blk.new w4 (recCells y) _
              have hb35 := hS.trans (hby.mono hS.size)
              obtain ⟨yb, hyb⟩ : ∃ yb, w4.heap.size = yb := ⟨_, rfl⟩
              rw [hyb] at hYx
              rw [hyb]
              generalize w4.alloc (.cells #[.string ⟨y.key.toArray⟩, .int .u64 (y.lsn : Nat), .bool y.del, .string ⟨y.val.toArray⟩] 58) = w5 at *
              have HB5 := Lib.hid hb35
              have hx5 := HBx.out.on hb35
              have c0 : w5.cell? ⟨wr.heap.size, 0, none⟩ = some (.string ⟨r.key.toArray⟩) := by rw [hx5.cell]; rfl
              have c2 : w5.cell? ⟨wr.heap.size, 2, none⟩ = some (.bool r.del) := by rw [hx5.cell]; rfl
              have c3 : w5.cell? ⟨wr.heap.size, 3, none⟩ = some (.string ⟨r.val.toArray⟩) := by rw [hx5.cell]; rfl
              have y2 : w5.cell? ⟨yb, 2, none⟩ = some (.bool y.del) := by rw [hYx.cell]; rfl
              have y3 : w5.cell? ⟨yb, 3, none⟩ = some (.string ⟨y.val.toArray⟩) := by rw [hYx.cell]; rfl
              have hlk := seen_look (HV.out.on hb35) r.key HRk.out
              clear hbz hby hYx hx5 hb35 hS HF9 hyb
              obtain ⟨w', k', hrun, hV', hk', hm'⟩ := seen_store (HV.out.on HB5.out) (by omega) r.key HRk.out
              have HV' := Lib.hid hV'
              have HBB := Lib.hid (show Below w.heap.size w w' from (HBw.out.trans (HB5.out.mono HBw.out.size)).trans (hm'.below (fun x hx => by simp at hx; omega) (HBw.out.trans (HB5.out.mono HBw.out.size)).size))
              have HRun := Lib.hid hrun
              clear hV' hm' hrun
              go_upto_region 10 with fail
              go_cut [85] (fun s85 wx => s85 = .bool (!okOp W S r) ∧ w5 = wx)
              case first =>
                cases is with
                | false =>
                  have HX := Lib.hid (show (!okOp W S r) = true by rw [HOp.out]; rfl)
                  go_wp2_with fail
                  go_meet
                  exact ⟨by rw [HX.out]; try rfl, rfl⟩
                | true =>
                  by_cases hin : r.key ∈ S
                  · rw [if_pos hin] at hlk
                    have HX := Lib.hid (show (!okOp W S r) = true by rw [HOp.out, decide_eq_true hin]; rfl)
                    clear hin
                    go_wp2_with fail
                    go_meet
                    exact ⟨by rw [HX.out]; try rfl, rfl⟩
                  · rw [if_neg hin] at hlk
                    by_cases hd : y.del = r.del
                    · rw [hd] at y2
                      by_cases hv : y.val = r.val
                      · have e2 : ((⟨y.val.toArray⟩ : ByteArray) != ⟨r.val.toArray⟩) = false := by rw [bytes_bne]; simp [hv]
                        have HX := Lib.hid (show (!okOp W S r) = false by rw [HOp.out, decide_eq_false hin, decide_eq_true hd, decide_eq_true hv]; rfl)
                        have HVal := Lib.hid hv
                        clear hin hd hv
                        go_wp2_with fail
                        go_meet
                        exact ⟨by rw [HX.out]; first | rfl | (simp [HVal.out]), rfl⟩
                      · have e2 : ((⟨y.val.toArray⟩ : ByteArray) != ⟨r.val.toArray⟩) = true := by rw [bytes_bne]; simp [hv]
                        have HX := Lib.hid (show (!okOp W S r) = true by rw [HOp.out, decide_eq_false hv]; simp)
                        have HVal := Lib.hid hv
                        clear hin hd hv
                        go_wp2_with fail
                        go_meet
                        exact ⟨by rw [HX.out]; first | rfl | (simp [HVal.out]), rfl⟩
                    · have HX := Lib.hid (show (!okOp W S r) = true by rw [HOp.out, decide_eq_false hd]; simp)
                      cases hrd : r.del with
                      | true =>
                        have hyd : y.del = false := by cases hq : y.del with | true => exact absurd (hq.trans hrd.symm) hd | false => rfl
                        rw [hrd] at c2
                        rw [hyd] at y2
                        clear hin hd hrd hyd
                        go_wp2_with fail
                        go_meet
                        exact ⟨by rw [HX.out]; try rfl, rfl⟩
                      | false =>
                        have hyd : y.del = true := by cases hq : y.del with | false => exact absurd (hq.trans hrd.symm) hd | true => rfl
                        rw [hrd] at c2
                        rw [hyd] at y2
                        clear hin hd hrd hyd
                        go_wp2_with fail
                        go_meet
                        exact ⟨by rw [HX.out]; try rfl, rfl⟩
              obtain ⟨rfl, rfl⟩ := hcut
              have hrun := HRun.out
              clear hlk y2 y3 c2 c3
              cases hop : okOp W S r with
              | true =>
                have HO2 := Lib.hid (show okOps W [] x.ops = okOps W (r.key :: S) (x.ops.drop (j + 1)) by have := HOk.out; rw [hop] at this; simpa using this)
                clear hop
                go_wp2_with fail
                go_roundw
                case rel => exact ⟨_, _, _, _, .int .i64 ((j : Int) + 1), ⟨j + 1, by omega, by go_num, k', r.key :: S, HV'.out, by omega, HO2.out, HBB.out⟩, rfl, rfl, rfl, rfl, rfl⟩
                case measure => simp [intOf]; omega
              | false =>
                have HO2 := Lib.hid (show okOps W [] x.ops = false by have := HOk.out; rw [hop] at this; simpa using this)
                have HB6 := Lib.hid (HBw.out.trans (HB5.out.mono HBw.out.size))
                clear hop hrun
                go_wp2_with fail
                go_ret
                exact ⟨by rw [HE.out, HO2.out]; try rfl, HB6.out⟩
            · have hge : ¬ (j : Int) < (q.1.n : Int) := by omega
              have HO2 := Lib.hid (show okOps W [] q.2.ops = true by
                have hjj : j = q.2.ops.length := by have := HQ.out.n; omega
                rw [hok, hjj, List.drop_eq_nil_of_le (Nat.le_refl _)]; rfl)
              have HB6 := Lib.hid hb
              clear hok hV hb
              go_wp2_with fail
              go_ret
              exact ⟨by rw [HE.out, HO2.out]; try rfl, HB6.out⟩
        · have e1 : ((q.1.n : Int) != (W.length : Int)) = true := bne_iff_ne.2 (by rw [HQ.out.n]; omega)
          have HE := Lib.hid (show endedB W (z.map (·.2)) = false by rw [HEn.out, decide_eq_false hl]; simp)
          clear hw hl
          refine wp_region_settle (Below w.heap.size w) (by kernel_rfl) (by kernel_rfl) (by kernel_rfl) (below_drew (Below.refl _ _)) ?_
          repeat (first
            | (refine settled_not ?_ ?_
               · rfl
               simp only [Act.put, List.setIfInBounds_toArray, List.set_cons_zero, List.set_cons_succ])
            | (refine settled_val (v := ?_) ?_ (fun w' hS => ?_) ?_
               rotate_left
               · rfl
               · obtain ⟨k0, k1, k2⟩ := HF.out w' hS
                 go_simp
                 with_reducible rfl
               simp only [Act.put, List.setIfInBounds_toArray, List.set_cons_zero, List.set_cons_succ]))
          refine settled_nil (fun w2 hS => ?_)
          have HB := Lib.hid hS
          clear hS
          go_wp2_with fail
          go_ret
          exact ⟨by rw [HE.out]; try rfl, HB.out⟩
end Go.Proofs.Ytffianjbljgnaaa

/-! ### Index -/
namespace Go.Proofs.Ytffianjbljgnaaa
set_option linter.unusedVariables false
set_option linter.unusedSimpArgs false
open Go.RowKit Go.Maps

def askC (ts : Nat) (m : Md) : Bool := decide (m.ts = ts) && decide (m.kind = 5)
/-- The first call that is so, from place i on. -/
def firstAt (f : Md → Bool) : Nat → List MZ → Int
  | _, [] => -1
  | i, q :: t => if f q.1 then i else firstAt f (i + 1) t
set_option maxRecDepth 100000 in
set_option maxHeartbeats 2000000 in
theorem serial1_any (w : World) (m : Md) (tb ts : Nat) (ht : w.cell? ⟨tb, 0, none⟩ = some (.int .u64 (ts : Nat))) (htl : tb < w.heap.size) :
    Calls Try.prog 31 #[.agg (mdCells m).toArray, .pointer (some ⟨tb, 0, none⟩)] w fun e w' => e = .returned (.bool (askC ts m)) ∧ Below w.heap.size w w' := by
  have hbn := (Below.refl w.heap.size w).alloc (Nat.le_refl _) (.cells (mdCells m).toArray 37)
  have HB := Lib.hid hbn
  have k0 := (hbn.cell (p := ⟨tb, 0, none⟩) htl).trans ht
  obtain ⟨d0, _, d2, _⟩ := md_box w m
  simp only [Nat.zero_add] at d2
  clear hbn ht
  go_enter Try.func31, Try.ntmps31
  go_upto_region 1 with fail
  generalize w.alloc (.cells (mdCells m).toArray 37) = w1 at *
  by_cases h1 : m.ts = ts
  · have e1 : ((m.ts : Int) == (ts : Int)) = true := beq_iff_eq.2 (by omega)
    by_cases h2 : m.kind = 5
    · have HX := Lib.hid (show askC ts m = true by unfold askC; rw [decide_eq_true h1, decide_eq_true h2]; rfl)
      rw [h2] at d2
      clear h1 h2
      go_wp2_with fail
      go_ret
      exact ⟨by rw [HX.out]; try rfl, HB.out⟩
    · have e2 : (m.kind == 5) = false := beq_eq_false_iff_ne.2 h2
      have HX := Lib.hid (show askC ts m = false by unfold askC; rw [decide_eq_false h2]; simp)
      have H2 := Lib.hid h2
      clear h1 h2
      go_wp2_with fail
      go_ret
      exact ⟨by rw [HX.out]; first | rfl | (simp [H2.out]), HB.out⟩
  · have e1 : ((m.ts : Int) == (ts : Int)) = false := beq_eq_false_iff_ne.2 (by omega)
    have HX := Lib.hid (show askC ts m = false by unfold askC; rw [decide_eq_false h1]; rfl)
    have H1 := Lib.hid h1
    clear h1
    go_wp2_with fail
    go_ret
    exact ⟨by rw [HX.out]; first | rfl | (simp [H1.out]), HB.out⟩
theorem firstAt_drop (f : Md → Bool) (z : List MZ) (i : Nat) (q : MZ) (hq : z[i]? = some q) : firstAt f i (z.drop i) = if f q.1 then (i : Int) else firstAt f (i + 1) (z.drop (i + 1)) := by
  obtain ⟨h1, rfl⟩ := List.getElem?_eq_some_iff.1 hq
  rw [List.drop_eq_getElem_cons h1]; rfl
set_option maxRecDepth 100000 in
set_option maxHeartbeats 4000000 in
theorem indexM_any (w : World) (f : Md → Bool) (fn : FuncId) (hfn : fn = 31) (tb ts : Nat) (ht : w.cell? ⟨tb, 0, none⟩ = some (.int .u64 (ts : Nat))) (htl : tb < w.heap.size) (hf : f = askC ts)
    (am : Option Addr) (nm cm : Nat) (zm : List MZ) (hm : MadeAt w am nm cm zm) (hnm : nm ≤ 100000) :
    Calls Try.prog 30 #[.slice am nm cm, .func (.func 31) #[] #[.pointer (some ⟨tb, 0, none⟩)]] w fun e w' => e = .returned (.int .i64 (firstAt f 0 zm)) ∧ Below w.heap.size w w' := by
  subst hf
  have HMM := Lib.hid hm
  have HT := Lib.hid ht
  clear hm ht
  go_enter Try.func30, Try.ntmps30
  go_wp2_with fail
  go_loopw [4, 5, 8] (fun _ _ s8 wr => ∃ i : Nat, i ≤ nm ∧ s8 = .int .i64 i ∧ firstAt (askC ts) 0 zm = firstAt (askC ts) i (zm.drop i) ∧ Below w.heap.size w wr) (fun _ _ s8 _ => nm - (intOf s8).toNat)
  case atStart => exact ⟨0, by omega, rfl, rfl, Below.refl _ _⟩
  case round =>
    obtain ⟨i, hi, rfl, hfi, hb⟩ := hrel
    by_cases hlt : i < nm
    · have hil : (i : Int) < (nm : Int) := by omega
      obtain ⟨q, g, o, hq, hqz, rfl, hg, hc⟩ := (HMM.out.on hb).row hlt
      have HN := Lib.hid (show firstAt (askC ts) 0 zm = if askC ts q.1 then (i : Int) else firstAt (askC ts) (i + 1) (zm.drop (i + 1)) by rw [hfi, firstAt_drop _ _ _ _ hq])
      have HC := Lib.hid hc
      have HS := Lib.hid (serial1_any wr q.1 tb ts ((hb.cell (p := ⟨tb, 0, none⟩) htl).trans HT.out) (Nat.lt_of_lt_of_le htl hb.size))
      have HB := Lib.hid hb
      clear hfi hq hqz hc hb
      go_wp2_with ((with_reducible refine wpList_loadM rfl _ rfl _ _ _ HC.out ?_ ?_); rfl)
      refine HS.out.mono ?_
      rintro e w2 ⟨rfl, hb2⟩
      have HB2 := Lib.hid (HB.out.trans (hb2.mono HB.out.size))
      clear hb2
      cases hak : askC ts q.1 with
      | true =>
        have HR := Lib.hid (show firstAt (askC ts) 0 zm = (i : Int) by rw [HN.out, hak]; rfl)
        clear hak
        go_wp2_with fail
        go_ret
        exact ⟨by rw [HR.out]; try rfl, HB2.out⟩
      | false =>
        have HR := Lib.hid (show firstAt (askC ts) 0 zm = firstAt (askC ts) (i + 1) (zm.drop (i + 1)) by rw [HN.out, hak]; rfl)
        clear hak
        go_wp2_with fail
        go_roundw
        case rel => exact ⟨i + 1, by omega, by go_num, HR.out, HB2.out⟩
        case measure => simp [intOf]; omega
    · have hge : ¬ (i : Int) < (nm : Int) := by omega
      have HR := Lib.hid (show firstAt (askC ts) 0 zm = -1 by
        have hin : i = zm.length := by rw [HMM.out.len]; omega
        rw [hfi, hin, List.drop_eq_nil_of_le (Nat.le_refl _)]; rfl)
      have HB := Lib.hid hb
      clear hfi hb
      go_wp2_with fail
      go_ret
      exact ⟨by rw [HR.out]; try rfl, HB.out⟩
end Go.Proofs.Ytffianjbljgnaaa

/-! ### Of -/
namespace Go.Proofs.Ytffianjbljgnaaa
set_option linter.unusedVariables false
set_option linter.unusedSimpArgs false
open Go.RowKit Go.Maps

def ofZ (z : List EZ) (ts : Nat) : List EZ := z.filter fun q => decide (q.1.ts = ts)
/-- The value under a key. -/
def ofV (F : Nat → Option Value) (ts : Nat) : Value := (F ts).getD (.slice none 0 0)
/-- Block ob is the map of z's entries, by their timestamps; the rows lie from block B on, each in a block of its own. -/
structure OfAt (w : World) (ob B : Nat) (z : List EZ) (F : Nat → Option Value) (n : Nat) : Prop where
  map : VMap numKey w ob n F
  cnt : n ≤ z.length
  row : ∀ ts, w.ownsRow B 40 3 (ofV F ts) (ofZ z ts).length (entsCells ((ofZ z ts).map (·.1)))
  apart : ∀ t t' x, t ≠ t' → (ofV F t).ownBlock = some x → (ofV F t').ownBlock ≠ some x
  obl : ob < B
theorem OfAt.on {w w' : World} {ob B n : Nat} {z : List EZ} {F : Nat → Option Value} (h : OfAt w ob B z F n) (hb : Below w.heap.size w w') : OfAt w' ob B z F n :=
  ⟨h.map.on hb, h.cnt, fun ts => ownsRow_mod (S := []) (h.row ts) (Mod.of_below hb) (by simp), h.apart, h.obl⟩
theorem OfAt.mod {S : List Nat} {w w' : World} {ob B n : Nat} {z : List EZ} {F : Nat → Option Value} (h : OfAt w ob B z F n) (hm : Mod S w w') (hS : ∀ x ∈ S, x ≠ ob ∧ x < B) : OfAt w' ob B z F n :=
  ⟨h.map.mod hm (fun hx => (hS _ hx).1 rfl), h.cnt, fun ts => ownsRow_mod (h.row ts) hm (fun s hs e => by have := ((h.row ts).lt s e).1; have := (hS s hs).2; omega), h.apart, h.obl⟩
theorem OfAt.made (w : World) : OfAt (w.alloc (.map #[] 0)) w.heap.size (w.heap.size + 1) [] (fun _ => none) 0 :=
  ⟨VMap.made numKey w, Nat.le_refl _, fun ts => ⟨rfl, .inl ⟨rfl, rfl⟩⟩, (fun t t' x _ h => by cases h), by omega⟩
theorem OfAt.look {w : World} {ob B n : Nat} {z : List EZ} {F : Nat → Option Value} (h : OfAt w ob B z F n) (ts : Nat) (hts : ts < 18446744073709551616) :
    (Instr.lookup 76 (.map (some ob)) (.int .u64 (ts : Nat)) false).run Try.prog w = .ok (ofV F ts) w := by
  have := h.map.look_run (e := 25) (z := .slice none 0 0) Try.underlying76 (by kernel_rfl) ts hts
  rw [show numKey.val ts = .int .u64 (ts : Nat) from rfl] at this
  exact this
theorem oper_append_run3 {P : Program} {w : World} {o : Oper} {a : Act} {K : Act → World → Prop} {Q : Exit → Act → World → Prop} (s x : Operand) (t : TypeId)
    (ho : o.op = .call { callee := .builtin .append, args := #[s, x], argTypes := #[t, t] }) (v xv v' : Value) (w' : World) (hs : a.eval s = v) (hx : a.eval x = xv)
    (hrun : (Builtin.append_ #[t, t] o.type #[v, xv]).run P w = .ok v' w') (h : K (a.put o.dst v') w') : Oper.wp P o a w K Q := by
  unfold Oper.wp
  simp [execOp, ho, resolve, invoke, builtin, hs, hx, hrun, Result.andThen]
  exact h
/-- An entry is put behind those of its timestamp. -/
theorem OfAt.put {w : World} {ob B n : Nat} {z : List EZ} {F : Nat → Option Value} (h : OfAt w ob B z F n) (hB : B ≤ w.heap.size) (hz : z.length ≤ 100000) (q : EZ) (hts : q.1.ts < 18446744073709551616) (ty : TypeId) (c : Array Value) (hc : c = #[.int .u64 (q.1.ts : Nat), .int .u64 (q.1.first : Nat), .slice q.1.a q.1.n q.1.c]) (m : Nat) (hm : m = w.heap.size) :
    ∃ v' w1 w2 F' n', (Builtin.append_ #[25, 25] ty #[ofV F q.1.ts, .slice (some ⟨m, 0, none⟩) 1 1]).run Try.prog (w.alloc (.cells c 40)) = .ok v' w1 ∧ Mod (ofV F q.1.ts).ownBlock.toList w w1 ∧
      (Instr.mapUpdate 76 (.map (some ob)) (.int .u64 (q.1.ts : Nat)) v').run Try.prog w1 = .ok () w2 ∧ OfAt w2 ob B (z ++ [q]) F' n' ∧ Mod (ob :: (ofV F q.1.ts).ownBlock.toList) w w2 := by
  subst hc hm
  have hbn := (Below.refl w.heap.size w).alloc (Nat.le_refl _) (.cells #[.int .u64 (q.1.ts : Nat), .int .u64 (q.1.first : Nat), .slice q.1.a q.1.n q.1.c] 40)
  have hfl : (ofZ z q.1.ts).length ≤ z.length := List.length_filter_le _ _
  obtain ⟨v', w1, hrun, hown, hmod, hblk⟩ := own_append 25 40 ty _ 3 40 Try.underlying25 info_entry rfl (by decide) (by decide) ((h.row q.1.ts).alloc (.cells #[.int .u64 (q.1.ts : Nat), .int .u64 (q.1.first : Nat), .slice q.1.a q.1.n q.1.c] 40))
    (by omega) (by simp; omega) ⟨w.heap.size, 0, none⟩ 1 1 (entCells q.1) (by omega) (by omega) rfl
    (fun k u hk => by rw [addr_add', Nat.zero_add, World.cell?_alloc_new]; simpa [entCells] using hk)
    (by intro u hu; simp only [entCells, List.mem_cons, List.not_mem_nil, or_false] at hu; rcases hu with rfl | rfl | rfl <;> rfl)
  have hm1 : Mod (ofV F q.1.ts).ownBlock.toList w w1 := (Mod.of_below hbn).trans hmod
  have hobn : ob ∉ (ofV F q.1.ts).ownBlock.toList := fun hx => by
    have := ((h.row q.1.ts).lt ob (by simpa using hx)).1
    have := h.obl
    omega
  obtain ⟨w2, hr2, hv2, hm2⟩ := (h.map.mod hm1 hobn).store (e := 25) Try.underlying76 (by have := h.cnt; unfold maxLen; omega) q.1.ts hts v'
  rw [show numKey.val q.1.ts = .int .u64 (q.1.ts : Nat) from rfl] at hr2
  have hfresh : ∀ x, v'.ownBlock = some x → (ofV F q.1.ts).ownBlock = some x ∨ w.heap.size ≤ x := fun x hx => (hblk x hx).imp id (fun h => by simp at h; omega)
  have hm12 : Mod (ob :: (ofV F q.1.ts).ownBlock.toList) w w2 := (hm1.mono (fun x hx => .inl (List.mem_cons_of_mem _ hx))).trans (hm2.mono (fun x hx => by simp at hx; left; simp [hx]))
  refine ⟨v', w1, w2, _, _, hrun, hm1, hr2, ⟨hv2, ?_, fun ts => ?_, fun t t' x hne hx => ?_, h.obl⟩, hm12⟩
  · rw [List.length_append]; have := h.cnt; split <;> simp <;> omega
  · by_cases hts2 : ts = q.1.ts
    · subst hts2
      have e1 : ofV (fun y => if y = q.1.ts then some v' else F y) q.1.ts = v' := by unfold ofV; simp
      have e2 : ofZ (z ++ [q]) q.1.ts = ofZ z q.1.ts ++ [q] := by unfold ofZ; rw [List.filter_append]; simp
      rw [e1, e2, List.length_append, List.map_append, ents_append]
      refine ownsRow_mod (S := [ob]) ?_ hm2 (fun s hs hx => ?_)
      · simpa [entsCells] using hown
      · rw [List.mem_singleton.1 hs] at hx
        have := (hown.lt ob hx).1
        have := h.obl
        omega
    · have e1 : ofV (fun y => if y = q.1.ts then some v' else F y) ts = ofV F ts := by unfold ofV; simp [hts2]
      have e2 : ofZ (z ++ [q]) ts = ofZ z ts := by
        unfold ofZ
        rw [List.filter_append]
        have : ¬ q.1.ts = ts := fun e => hts2 e.symm
        simp [this]
      rw [e1, e2]
      refine ownsRow_mod (h.row ts) hm12 (fun s hs hx => ?_)
      rcases List.mem_cons.1 hs with rfl | hs
      · have := ((h.row ts).lt s hx).1
        have := h.obl
        omega
      · exact h.apart _ _ s hts2 hx (by simpa using hs)
  · by_cases h1 : t = q.1.ts
    · subst h1
      rw [show ofV (fun y => if y = q.1.ts then some v' else F y) q.1.ts = v' by unfold ofV; simp] at hx
      rw [show ofV (fun y => if y = q.1.ts then some v' else F y) t' = ofV F t' by unfold ofV; simp [Ne.symm hne]]
      rcases hfresh x hx with h2 | h2
      · exact h.apart _ _ x hne h2
      · intro h3
        have := ((h.row t').lt x h3).2
        omega
    · rw [show ofV (fun y => if y = q.1.ts then some v' else F y) t = ofV F t by unfold ofV; simp [h1]] at hx
      by_cases h2 : t' = q.1.ts
      · subst h2
        rw [show ofV (fun y => if y = q.1.ts then some v' else F y) q.1.ts = v' by unfold ofV; simp]
        intro h3
        rcases hfresh x h3 with h4 | h4
        · exact h.apart _ _ x hne hx h4
        · have := ((h.row t).lt x hx).2
          omega
      · rw [show ofV (fun y => if y = q.1.ts then some v' else F y) t' = ofV F t' by unfold ofV; simp [h2]]
        exact h.apart _ _ x hne hx
end Go.Proofs.Ytffianjbljgnaaa

/-! ### Serial -/
namespace Go.Proofs.Ytffianjbljgnaaa
set_option linter.unusedVariables false
set_option linter.unusedSimpArgs false
open Go.RowKit Go.Maps

/-- A transaction's calls, one behind the other, on a map: the first that is not right; the map and what was written, if all are. -/
def runC (z : List MZ) : List KV → List Rec → List Nat → Option Nat × List KV × List Rec
  | M, W, [] => (none, M, W)
  | M, W, i :: t => match z[i]? with
    | none => (none, M, W)
    | some q => if rightB M q then runC z (rightM M q) (rightW W q) t else (some i, M, W)
def entsOf (ez : List EZ) (ts : Nat) : List Entry := (ofZ ez ts).map (·.2)
def serialL (z : List MZ) (ez : List EZ) : List KV → List Nat → Int
  | _, [] => -1
  | M, ts :: t => match runC z M [] (callsL ts z) with
    | (some i, _, _) => i
    | (none, M2, W2) => if endedB W2 (entsOf ez ts) then serialL z ez M2 t else firstAt (askC ts) 0 z
theorem u64s_nth (l : List Nat) (i n : Nat) (h : l[i]? = some n) : (u64s l)[i]? = some (.int .u64 (n : Int)) := by unfold u64s; rw [List.getElem?_map, h]; rfl
theorem i64s_nth (l : List Nat) (i n : Nat) (h : l[i]? = some n) : (i64s l)[i]? = some (.int .i64 (n : Int)) := by unfold i64s; rw [List.getElem?_map, h]; rfl
theorem rightM_asc {M : List KV} (h : Asc M) (q : MZ) : Asc (rightM M q) := by
  unfold rightM
  split
  · exact app_asc h _
  · split
    · exact app_asc h _
    · exact h
theorem rightM_length {M : List KV} (h : Asc M) (q : MZ) : (rightM M q).length ≤ M.length + 1 := by
  unfold rightM
  split
  · exact app_length h _
  · split
    · exact app_length h _
    · omega
theorem rightW_length (W : List Rec) (q : MZ) : (rightW W q).length ≤ W.length + 1 := by
  have h : ∀ r, (setR W r).length ≤ W.length + 1 := fun r => by rw [setR_length]; split <;> omega
  unfold rightW
  split
  · exact h _
  · split
    · exact h _
    · omega
/-- What the seen calls of a history are asked to be. -/
structure MadeOk (z : List MZ) : Prop where
  pn : ∀ q ∈ z, q.1.pn ≤ 9223372036854775807
  kind : ∀ q ∈ z, -9223372036854775808 ≤ q.1.kind ∧ q.1.kind ≤ 9223372036854775807
set_option maxRecDepth 100000 in
set_option maxHeartbeats 16000000 in
theorem serial_any (w : World) (a : Option Addr) (n c : Nat) (z : List EZ) (h : EntsAt w a n c z) (hn : n ≤ 900) (hops : ∀ q ∈ z, q.2.ops.length ≤ 1000)
    (am : Option Addr) (nm cm : Nat) (zm : List MZ) (hm : MadeAt w am nm cm zm) (hnm : nm ≤ 900) (hok : MadeOk zm) (hB : BoundU (commL (z.map (·.1.ts)) zm).length) (hC : ∀ ts, BoundC (indsL ts zm).length) :
    Calls Try.prog 8 #[.slice a n c, .slice am nm cm] w fun e w' => e = .returned (.int .i64 (serialL zm z [] (commL (z.map (·.1.ts)) zm))) ∧ Below w.heap.size w w' := by
  have hM0 := VMap.made_run (w := w) (k := 9) (e := 9) (t := 72) Try.underlying72
  have HH := Lib.hid h
  have HMM := Lib.hid hm
  have HO := Lib.hid hops
  have HK := Lib.hid hok
  clear h hm hops hok
  go_enter Try.func8, Try.ntmps8
  go_upto_region 2 with fail
  clear hM0
  have hbm := (Below.refl w.heap.size w).alloc (Nat.le_refl _) (.map #[] 0)
  have hb1 := hbm.alloc hbm.size (.cells #[.map (some w.heap.size), .map none] 75)
  have hst : StoreAt ((w.alloc (.map #[] 0)).alloc (.cells #[.map (some w.heap.size), .map none] 75)) w.heap.size [] := (StoreAt.made w).on ((Below.refl _ _).alloc (Nat.le_refl _) _)
  have hrb : Blk ((w.alloc (.map #[] 0)).alloc (.cells #[.map (some w.heap.size), .map none] 75)) (w.heap.size + 1) [.map (some w.heap.size), .map none] 75 := by
    have := Blk.new (w.alloc (.map #[] 0)) [.map (some w.heap.size), .map none] 75
    rw [World.size_alloc] at this
    exact this
  have hsz : ((w.alloc (.map #[] 0)).alloc (.cells #[.map (some w.heap.size), .map none] 75)).heap.size = w.heap.size + 2 := by simp
  generalize (w.alloc (.map #[] 0)).alloc (.cells #[.map (some w.heap.size), .map none] 75) = w1 at *
  have hM1 := VMap.made_run (w := w1) (k := 29) (e := 25) (t := 76) Try.underlying76
  have HOf0 := Lib.hid (OfAt.made w1)
  have HB1 := Lib.hid hb1
  have HSt := Lib.hid hst
  have HRb := Lib.hid hrb
  have HSz := Lib.hid hsz
  have HBo := Lib.hid ((Below.refl w1.heap.size w1).alloc (Nat.le_refl _) (.map #[] 0))
  clear hbm hb1 hst hrb hsz
  go_wp2_with fail
  clear hM1
  go_loopw [8, 19] (fun _ s19 wr => ∃ (i k : Nat) (F : Nat → Option Value), i ≤ n ∧ s19 = .int .i64 i ∧ OfAt wr w1.heap.size (w1.heap.size + 1) (z.take i) F k ∧ Below w1.heap.size w1 wr ∧ w1.heap.size + 1 ≤ wr.heap.size) (fun _ s19 _ => n - (intOf s19).toNat)
  case atStart => exact ⟨0, 0, _, by omega, rfl, HOf0.out, HBo.out, by simp⟩
  case round =>
    obtain ⟨i, k, F, hi, rfl, hOf, hb, hsz⟩ := hrel
    have HBw := Lib.hid (HB1.out.trans (hb.mono HB1.out.size))
    by_cases hlt : i < n
    · have hil : (i : Int) < (n : Int) := by omega
      obtain ⟨q, g, o, hq, hqz, rfl, hg, c0, c1, c2⟩ := (HH.out.on HBw.out).row hlt
      have hts : q.1.ts < 18446744073709551616 := by rw [(HH.out.each q hqz).ts]; exact (HH.out.each q hqz).ok.ts
      have hNext : z.take (i + 1) = z.take i ++ [q] := by rw [List.take_add_one, hq]; rfl
      have HNext := Lib.hid hNext
      have hbn := (Below.refl wr.heap.size wr).alloc (Nat.le_refl _) (.cells #[.int .u64 (q.1.ts : Nat), .int .u64 (q.1.first : Nat), .slice q.1.a q.1.n q.1.c] 40)
      have hBx : Blk (wr.alloc (.cells #[.int .u64 (q.1.ts : Nat), .int .u64 (q.1.first : Nat), .slice q.1.a q.1.n q.1.c] 40)) wr.heap.size (entCells q.1) 40 := Blk.new wr (entCells q.1) _
      have hOf3 := hOf.on hbn
      have hb3 := hb.trans (hbn.mono hb.size)
      clear hq hqz hNext
      go_upto_region 6 with fail
      generalize hw3 : wr.alloc (.cells #[.int .u64 (q.1.ts : Nat), .int .u64 (q.1.first : Nat), .slice q.1.a q.1.n q.1.c] 40) = w3 at *
      have HW3 := Lib.hid (show wr.heap.size < w3.heap.size by rw [← hw3]; simp)
      clear hw3 c0 c1 c2 hbn
      have hvb : ∀ x, x ∈ (ofV F q.1.ts).ownBlock.toList → w1.heap.size + 1 ≤ x ∧ x < wr.heap.size := fun x hx => (hOf.row q.1.ts).lt x (by simpa using hx)
      have HF := Lib.hid (show ∀ w', Mod (ofV F q.1.ts).ownBlock.toList w3 w' → (w'.cell? ⟨wr.heap.size, 0, none⟩ = some (.int .u64 (q.1.ts : Nat)) ∧ w'.cell? ⟨wr.heap.size, 1, none⟩ = some (.int .u64 (q.1.first : Nat)) ∧ w'.cell? ⟨wr.heap.size, 2, none⟩ = some (.slice q.1.a q.1.n q.1.c) ∧
          (Instr.lookup 76 (.map (some w1.heap.size)) (.int .u64 (q.1.ts : Nat)) false).run Try.prog w' = .ok (ofV F q.1.ts) w') from fun w' hm => by
        have hx := hBx.mod hm (fun hx => by have := (hvb _ hx).2; omega)
        refine ⟨by rw [hx.cell]; rfl, by rw [hx.cell]; rfl, by rw [hx.cell]; rfl, ?_⟩
        have := (hOf3.map.mod hm (fun hx => by have := (hvb _ hx).1; omega)).look_run (e := 25) (z := .slice none 0 0) Try.underlying76 (by kernel_rfl) q.1.ts hts
        rw [show numKey.val q.1.ts = .int .u64 (q.1.ts : Nat) from rfl] at this
        exact this)
      have hOf4 : OfAt { w3 with drawn := w3.drawn + 1 } w1.heap.size (w1.heap.size + 1) (z.take i) F k := hOf3.on (below_drew (Below.refl _ _))
      have HVB := Lib.hid hvb
      have HB3 := Lib.hid hb3
      clear hOf hOf3 hBx hvb hb hb3
      refine wp_region_float [0, 1, 2, 3, 4, 5, 6, 7] [8, 9, 10] [10] (fun w' => Mod (ofV F q.1.ts).ownBlock.toList w3 w') (by kernel_rfl) (by kernel_rfl) (by kernel_rfl) (by kernel_rfl) (fun c a d v w h => by cases d <;> exact h) ((Mod.refl _ _).drew) ?_
      have hS : Mod (ofV F q.1.ts).ownBlock.toList w3 { w3 with drawn := w3.drawn + 1 } := (Mod.refl _ _).drew
      generalize ({ w3 with drawn := w3.drawn + 1 } : World) = w4 at *
      simp only [pick, List.map_cons, List.map_nil, List.getD_cons_zero, List.getD_cons_succ]
      repeat (
        refine takes_val (v := ?_) ?_ (fun w' hS => ?_) ?_
        rotate_left
        · rfl
        · obtain ⟨k0, k1, k2, k3⟩ := HF.out w' hS
          go_simp
          with_reducible rfl
        simp only [Act.put, List.setIfInBounds_toArray, List.set_cons_zero, List.set_cons_succ])
      refine takes_nil ?_
      obtain ⟨v', w5, w6, F', k', hrun, hm5, hrun2, hOf6, hm6⟩ := hOf4.put (by have := hS.size; have := HW3.out; omega) (by rw [List.length_take]; omega) q hts 25 _ rfl w4.heap.size rfl
      have HM6 := Lib.hid (show Below w1.heap.size w1 w6 from HB3.out.trans ((hS.below (fun x hx => by have := (HVB.out x hx).1; omega) HB3.out.size).trans (hm6.below (fun x hx => by
        rcases List.mem_cons.1 hx with rfl | hx
        · exact Nat.le_refl _
        · have := (HVB.out x hx).1; omega) (by have := hS.size; have := HB3.out.size; omega))))
      have HOf6 := Lib.hid hOf6
      have HS6 := Lib.hid (show w1.heap.size + 1 ≤ w6.heap.size by have := hm6.size; have := hS.size; have := HW3.out; omega)
      clear hOf4 hOf6 hm6
      refine seqW_step (by rfl) (fun K hK => ?_)
      go_simp
      refine hK.out _ _ (.inr (hS.alloc _)) ?_
      clear hK K
      refine seqW_step (by rfl) (fun K hK => ?_)
      refine oper_append_run3 _ _ _ rfl _ _ _ _ ?hs ?hx hrun ?_
      case hs => go_simp
      case hx => go_simp
      simp only [Act.put, List.setIfInBounds_toArray, List.set_cons_zero, List.set_cons_succ]
      refine hK.out _ _ (.inr (hS.trans hm5)) ?_
      clear hK K
      refine seqW_step (by rfl) (fun K hK => ?_)
      go_simp
      refine hK.out _ _ (.inl (by rfl)) (seqW_nil ?_)
      clear hK K HF hS hrun hrun2 hm5
      go_wp2_with fail
      go_roundw
      case rel => exact ⟨i + 1, k', F', by omega, by go_num, by rw [HNext.out]; exact HOf6.out, HM6.out, HS6.out⟩
      case measure => simp [intOf]; omega
    · have hge : ¬ (i : Int) < (n : Int) := by omega
      have hin : i = z.length := by rw [HH.out.len]; omega
      rw [hin, List.take_of_length_le (Nat.le_refl _)] at hOf
      have HCm := Lib.hid (comm_any wr am nm cm zm (HMM.out.on HBw.out) (by omega) a n c z (HH.out.on HBw.out) (by omega) hB)
      have hLn : (commL (z.map (·.1.ts)) zm).length ≤ nm := by rw [← HMM.out.len]; exact commL_le _ _
      have hLt : ∀ x ∈ commL (z.map (·.1.ts)) zm, x < 18446744073709551616 := fun x hx => commL_lt _ _ (fun q hq => (HMM.out.each q hq).ts) x hx
      have HLt := Lib.hid hLt
      have hst1 := HSt.out.on hb
      have hrb1 := HRb.out.on hb
      have hs1 := HSz.out
      obtain ⟨wo, hwo⟩ : ∃ wo, wo = wr := ⟨_, rfl⟩
      subst hwo
      have HOfo := Lib.hid hOf
      have HSto := Lib.hid hst1
      have HRbo := Lib.hid hrb1
      have hso : w.heap.size + 2 + 1 ≤ wo.heap.size := by omega
      have hs1a : w1.heap.size ≤ w.heap.size + 2 ∧ w.heap.size + 2 ≤ w1.heap.size := by omega
      clear hLt hin hlt hi hb hOf hst1 hrb1 hs1 hsz
      generalize hLe : commL (z.map (·.1.ts)) zm = L at *
      have HLe := Lib.hid hLe
      clear hLe
      go_wp2_with fail
      refine HCm.out.mono ?_
      rintro e w2 ⟨aL, cL, rfl, hrowL, holdL, hb2⟩
      have HRowL := Lib.hid hrowL
      have HOldL := Lib.hid holdL
      have HBo2 := Lib.hid hb2
      have hs2 := hb2.size
      clear hrowL holdL hb2
      go_wp2_with fail
      go_loopw [4, 10, 12, 38] (fun _ _ _ s38 wr => ∃ (i : Nat) (M : List KV) (x : Value), i ≤ L.length ∧ s38 = .int .i64 i ∧ StoreAt wr w.heap.size M ∧ M.length ≤ i * 900 ∧ Blk wr (w.heap.size + 1) [.map (some w.heap.size), x] 75 ∧ OfAt wr w1.heap.size (w1.heap.size + 1) z F k ∧ serialL zm z [] L = serialL zm z M (L.drop i) ∧ Mod [w.heap.size + 1, w.heap.size] w2 wr) (fun _ _ _ s38 _ => L.length - (intOf s38).toNat)
      case atStart => exact ⟨0, [], _, by omega, rfl, HSto.out.on HBo2.out, by simp, HRbo.out.on HBo2.out, HOfo.out.on HBo2.out, rfl, Mod.refl _ _⟩
      case round =>
        obtain ⟨i, M, xw, hi, rfl, hst, hMl, hrb, hOf, hser, hm⟩ := hrel
        have hsm := hm.size
        have hbw : Below w.heap.size w wr := (HBw.out.trans (HBo2.out.mono HBw.out.size)).trans (hm.below (fun x hx => by simp at hx; omega) (by omega))
        by_cases hlt : i < L.length
        · have hil : (i : Int) < (L.length : Int) := by omega
          obtain ⟨ts, htsL⟩ : ∃ ts, L[i]? = some ts := ⟨_, List.getElem?_eq_getElem hlt⟩
          obtain ⟨gL, oL, rfl, hgL, hcL⟩ := HRowL.out.at_ (by omega)
          have d0 := hcL i _ (u64s_nth L i ts htsL)
          have hgL2 : gL ∉ [w.heap.size + 1, w.heap.size] := by have := HOldL.out gL oL rfl; simp; omega
          have k0 := (hm.cell hgL hgL2).trans d0
          have hts : ts < 18446744073709551616 := HLt.out ts (List.mem_of_getElem? htsL)
          have hdrop : L.drop i = ts :: L.drop (i + 1) := by
            obtain ⟨h1, rfl⟩ := List.getElem?_eq_some_iff.1 htsL
            exact List.drop_eq_getElem_cons h1
          have hi900 : i * 900 ≤ 900 * 900 := Nat.mul_le_mul_right _ (by omega)
          rw [hdrop] at hser
          clear d0 hcL htsL hdrop
          -- the box of ts, the new map, the store into the replay
          have hb3 := (Below.refl wr.heap.size wr).alloc (Nat.le_refl _) (.cells #[.int .u64 (ts : Nat)] 29)
          have hTs : Blk (wr.alloc (.cells #[.int .u64 (ts : Nat)] 29)) wr.heap.size [.int .u64 (ts : Nat)] 29 := Blk.new wr [.int .u64 (ts : Nat)] _
          have hMm := VMap.made_run (w := wr.alloc (.cells #[.int .u64 (ts : Nat)] 29)) (k := 9) (e := 58) (t := 73) Try.underlying73
          rw [World.size_alloc] at hMm
          have hb4 := hb3.trans (((Below.refl _ _).alloc (Nat.le_refl _) (.map #[] 0)).mono hb3.size)
          have hwr0 : WroteAt ((wr.alloc (.cells #[.int .u64 (ts : Nat)] 29)).alloc (.map #[] 0)) (wr.heap.size + 1) [] := by
            have := WroteAt.made (wr.alloc (.cells #[.int .u64 (ts : Nat)] 29))
            rw [World.size_alloc] at this
            exact this
          have hsz4 : ((wr.alloc (.cells #[.int .u64 (ts : Nat)] 29)).alloc (.map #[] 0)).heap.size = wr.heap.size + 2 := by simp
          have hst4 := hst.on hb4
          have hrb4 := hrb.on hb4
          have hOf4 := hOf.on hb4
          have HOfq := Lib.hid hOf
          have hTs4 := hTs.alloc (.map #[] 0)
          have hm4 := hm.thenBelow hb4
          have z0 := hrb4.free 1
          have z1 : ((wr.alloc (.cells #[.int .u64 (ts : Nat)] 29)).alloc (.map #[] 0)).cell? ⟨w.heap.size + 1, 1, none⟩ = some xw := by rw [hrb4.cell]; rfl
          have hset : Mod [w.heap.size + 1] ((wr.alloc (.cells #[.int .u64 (ts : Nat)] 29)).alloc (.map #[] 0)) (((wr.alloc (.cells #[.int .u64 (ts : Nat)] 29)).alloc (.map #[] 0)).setCell ⟨w.heap.size + 1, 1, none⟩ (.map (some (wr.heap.size + 1)))) := (Mod.refl _ _).setCell _ _ (.inl (by simp))
          have hrb5 : Blk (((wr.alloc (.cells #[.int .u64 (ts : Nat)] 29)).alloc (.map #[] 0)).setCell ⟨w.heap.size + 1, 1, none⟩ (.map (some (wr.heap.size + 1)))) (w.heap.size + 1) [.map (some w.heap.size), .map (some (wr.heap.size + 1))] 75 := hrb4.set 1 (.map (some (wr.heap.size + 1)))
          have hRep5 := Lib.hid (show RepAt (((wr.alloc (.cells #[.int .u64 (ts : Nat)] 29)).alloc (.map #[] 0)).setCell ⟨w.heap.size + 1, 1, none⟩ (.map (some (wr.heap.size + 1)))) (w.heap.size + 1) w.heap.size (wr.heap.size + 1) M [] from
            ⟨hrb5, hst4.mod hset (by simp), hwr0.mod hset (by simp; omega), by omega, by omega, by omega⟩)
          have hTs5 := hTs4.mod hset (by simp; omega)
          have hOf5 := hOf4.mod hset (fun x hx => by simp at hx; omega)
          have hm5 := hm4.trans (hset.mono (S' := [w.heap.size + 1, w.heap.size]) (fun x hx => by simp at hx; left; simp [hx]))
          clear hst4 hrb4 hOf4 hTs4 hm4 hrb5 hwr0 hst hrb hOf hm hTs hb3 hb4
          go_upto_region 12 with fail
          clear z0 z1 hMm k0
          have hsz5 : (((wr.alloc (.cells #[.int .u64 (ts : Nat)] 29)).alloc (.map #[] 0)).setCell ⟨w.heap.size + 1, 1, none⟩ (.map (some (wr.heap.size + 1)))).heap.size = wr.heap.size + 2 := by simp
          generalize ((wr.alloc (.cells #[.int .u64 (ts : Nat)] 29)).alloc (.map #[] 0)).setCell ⟨w.heap.size + 1, 1, none⟩ (.map (some (wr.heap.size + 1))) = w5 at *
          have HSz5 := Lib.hid hsz5
          have hbw5 : Below w.heap.size w w5 := (HBw.out.trans (HBo2.out.mono HBw.out.size)).trans (hm5.below (fun x hx => by simp at hx; omega) (by omega))
          have HCl := Lib.hid (show Calls Try.prog 27 #[.slice am nm cm, .int .u64 ts] w5 fun e w' => ∃ (a : Option Addr) (c : Nat), e = .returned (.slice a (callsL ts zm).length c) ∧ RowsAt w' a (callsL ts zm).length c 1 (i64s (callsL ts zm)) ∧ (∀ g o, a = some ⟨g, o, none⟩ → w5.heap.size ≤ g) ∧ Below w5.heap.size w5 w' from calls_any w5 am nm cm zm (HMM.out.on hbw5) (by omega) ts (hC ts))
          have HCn := Lib.hid (show (callsL ts zm).length ≤ nm from by
            have h1 := indsP_le ts zm zm.length
            have h2 : (callsL ts zm).length = (indsL ts zm).length := isort_length _ _
            have h3 := HMM.out.len
            rw [h2]
            exact Nat.le_trans h1 (by omega))
          have HCi := Lib.hid (show ∀ x ∈ callsL ts zm, x < nm from fun x hx => by
            have h1 := indsL_mem ts zm x ((isort_perm _ _).mem_iff.1 hx)
            have h3 := HMM.out.len
            omega)
          have HBw5 := Lib.hid hbw5
          have HTs5 := Lib.hid hTs5
          have HOf5 := Lib.hid hOf5
          have HM5 := Lib.hid hm5
          have HSer := Lib.hid (show serialL zm z [] L = match runC zm M [] (callsL ts zm) with
              | (some i, _, _) => (i : Int)
              | (none, M2, W2) => if endedB W2 (entsOf z ts) then serialL zm z M2 (L.drop (i + 1)) else firstAt (askC ts) 0 zm from hser)
          have d0 : w5.cell? ⟨wr.heap.size, 0, none⟩ = some (.int .u64 (ts : Nat)) := by rw [hTs5.cell]; rfl
          clear hser hbw5 hTs5 hOf5 hm5 hset hsz4 hsz5
          generalize callsL ts zm = cs at *
          go_wp2_with fail
          refine HCl.out.mono ?_
          rintro e w6 ⟨aC, cC, rfl, hrowC, holdC, hb6⟩
          have HRowC := Lib.hid hrowC
          have HOldC := Lib.hid holdC
          have HB6 := Lib.hid hb6
          have hs6 := hb6.size
          have hs5 := HSz5.out
          clear hrowC holdC hb6 d0 hbw
          have hcn := HCn.out
          obtain ⟨wq, hwq⟩ : ∃ wq, wq = wr := ⟨_, rfl⟩
          subst hwq
          have hs5a : wq.heap.size + 2 ≤ w5.heap.size ∧ w5.heap.size ≤ wq.heap.size + 2 := by omega
          clear hs5
          go_wp2_with fail
          go_loopw [4, 12, 50] (fun _ _ s50 wr => ∃ (j : Nat) (M2 : List KV) (W2 : List Rec), j ≤ cs.length ∧ s50 = .int .i64 j ∧ RepAt wr (w.heap.size + 1) w.heap.size (wq.heap.size + 1) M2 W2 ∧ M2.length ≤ i * 900 + j ∧ W2.length ≤ j ∧ runC zm M [] cs = runC zm M2 W2 (cs.drop j) ∧ Mod [w.heap.size, wq.heap.size + 1] w6 wr) (fun _ _ s50 _ => cs.length - (intOf s50).toNat)
          case atStart => exact ⟨0, M, [], by omega, rfl, hRep5.out.on HB6.out, by omega, by simp, rfl, Mod.refl _ _⟩
          case round =>
            obtain ⟨j, M2, W2, hj, rfl, hrep, hM2, hW2, hrun, hm⟩ := hrel
            have hsm2 := hm.size
            have hbw6 : Below w.heap.size w w6 := HBw5.out.trans (HB6.out.mono HBw5.out.size)
            have hbwr : Below w.heap.size w wr := hbw6.trans (hm.below (fun x hx => by simp at hx; omega) hbw6.size)
            by_cases hltj : j < cs.length
            · have hjl : (j : Int) < (cs.length : Int) := by omega
              obtain ⟨ix, hix⟩ : ∃ ix, cs[j]? = some ix := ⟨_, List.getElem?_eq_getElem hltj⟩
              obtain ⟨gC, oC, rfl, hgC, hcC⟩ := HRowC.out.at_ (by omega)
              have d1 := hcC j _ (i64s_nth cs j ix hix)
              have hgC2 : gC ∉ [w.heap.size, wq.heap.size + 1] := by have := HOldC.out gC oC rfl; simp; omega
              have k1 := (hm.cell hgC hgC2).trans d1
              have hixn : ix < nm := HCi.out ix (List.mem_of_getElem? hix)
              have hixl : (ix : Int) < (nm : Int) := by omega
              obtain ⟨q, gm, om, hq, hqz, rfl, hgm, hcm⟩ := (HMM.out.on hbwr).row hixn
              have HCM := Lib.hid hcm
              have hdrop : cs.drop j = ix :: cs.drop (j + 1) := by
                obtain ⟨h1, rfl⟩ := List.getElem?_eq_some_iff.1 hix
                exact List.drop_eq_getElem_cons h1
              have HRun := Lib.hid (show runC zm M [] cs = if rightB M2 q then runC zm (rightM M2 q) (rightW W2 q) (cs.drop (j + 1)) else (some ix, M2, W2) by
                rw [hrun, hdrop]
                show (match zm[ix]? with | none => (none, M2, W2) | some q => if rightB M2 q then runC zm (rightM M2 q) (rightW W2 q) (cs.drop (j + 1)) else (some ix, M2, W2)) = _
                rw [hq])
              have HRt := Lib.hid (right_any wr (w.heap.size + 1) w.heap.size (wq.heap.size + 1) q M2 W2 hrep (by omega) (by omega) ((HMM.out.each q hqz).on hbwr) (HK.out.pn q hqz) (HK.out.kind q hqz))
              have HAsc := Lib.hid hrep.store.asc
              have HM := Lib.hid hm
              have HBwr := Lib.hid hbwr
              clear d1 hcC hix hq hqz hcm hdrop hrun hrep hm hbwr hbw6
              go_wp2_with ((with_reducible refine wpList_loadM rfl _ rfl _ _ _ HCM.out ?_ ?_); rfl)
              refine HRt.out.mono ?_
              rintro e w7 ⟨rfl, hrep7, hm7⟩
              have HB7 := Lib.hid (HBwr.out.trans (hm7.below (fun x hx => by simp at hx; omega) HBwr.out.size))
              have HRep7 := Lib.hid hrep7
              have HM7 := Lib.hid (HM.out.trans hm7)
              clear hrep7 hm7
              cases hrB : rightB M2 q with
              | true =>
                have HR2 := Lib.hid (show runC zm M [] cs = runC zm (rightM M2 q) (rightW W2 q) (cs.drop (j + 1)) by rw [HRun.out, hrB]; rfl)
                have HL1 := Lib.hid (show (rightM M2 q).length ≤ i * 900 + (j + 1) by have := rightM_length HAsc.out q; omega)
                have HL2 := Lib.hid (show (rightW W2 q).length ≤ j + 1 by have := rightW_length W2 q; omega)
                clear hrB
                go_wp2_with fail
                go_roundw
                case rel => exact ⟨j + 1, _, _, by omega, by go_num, HRep7.out, HL1.out, HL2.out, HR2.out, HM7.out⟩
                case measure => simp [intOf]; omega
              | false =>
                have HR2 := Lib.hid (show serialL zm z [] L = (ix : Int) by rw [HSer.out, HRun.out, hrB]; rfl)
                clear hrB
                go_wp2_with fail
                go_ret
                exact ⟨by rw [HLe.out, HR2.out]; try rfl, HB7.out⟩
            · have hgej : ¬ (j : Int) < (cs.length : Int) := by omega
              have HR2 := Lib.hid (show serialL zm z [] L = if endedB W2 (entsOf z ts) then serialL zm z M2 (L.drop (i + 1)) else firstAt (askC ts) 0 zm by
                rw [HSer.out, hrun, List.drop_eq_nil_of_le (by omega)]; rfl)
              have hofm : Mod [w.heap.size, wq.heap.size + 1] w5 wr := (Mod.of_below HB6.out).trans hm
              have hofr : OfAt wr w1.heap.size (w1.heap.size + 1) z F k := by
                refine ⟨HOf5.out.map.mod hofm (by simp; omega), HOf5.out.cnt, fun t => ownsRow_mod (HOf5.out.row t) hofm (fun s hs e => ?_), HOf5.out.apart, HOf5.out.obl⟩
                have h1 := (HOf5.out.row t).lt s e
                have h2 := HM5.out
                simp at hs
                rcases hs with rfl | rfl
                · omega
                · have h3 := (HOfq.out.row t).lt _ e; omega
              have hlk := hofr.look ts hts
              have htb : wr.cell? ⟨wq.heap.size, 0, none⟩ = some (.int .u64 (ts : Nat)) := by rw [(HTs5.out.mod hofm (by simp; omega)).cell]; rfl
              obtain ⟨ao, co, hvo⟩ := own_slice (hofr.row ts)
              rw [hvo] at hlk
              have hro := hofr.row ts
              rw [hvo] at hro
              have hents : EntsAt wr ao (ofZ z ts).length co (ofZ z ts) := ⟨rfl, (own_rows hro).1, fun q hq => (HH.out.each q (List.mem_filter.1 hq).1).on hbwr⟩
              have HEn := Lib.hid (ended_any wr (w.heap.size + 1) w.heap.size (wq.heap.size + 1) M2 W2 hrep ao (ofZ z ts).length co (ofZ z ts) hents (by have := List.length_filter_le (fun q : EZ => decide (q.1.ts = ts)) z; have h2 := HH.out.len; show (z.filter _).length ≤ _; omega) (fun q hq => HO.out q (List.mem_filter.1 hq).1))
              have htl : wq.heap.size < wr.heap.size := by omega
              have HIx := Lib.hid (fun (w' : World) (hb' : Below wr.heap.size wr w') => indexM_any w' (askC ts) 31 rfl wq.heap.size ts ((hb'.cell (p := ⟨wq.heap.size, 0, none⟩) htl).trans htb) (by have := hb'.size; omega) rfl am nm cm zm (HMM.out.on (hbwr.trans (hb'.mono hbwr.size))) (by omega))
              have HEo := Lib.hid (show entsOf z ts = (ofZ z ts).map (·.2) from rfl)
              have HRep := Lib.hid hrep
              have HOfr := Lib.hid hofr
              have HMo := Lib.hid (show Mod [w.heap.size + 1, w.heap.size] w2 wr from HM5.out.on hofm (fun x hx => by
                simp at hx
                rcases hx with hx | hx
                · left; simp [hx]
                · right; omega))
              have HBwr := Lib.hid hbwr
              clear hrun hofm hofr hvo hro hents hrep hm hbwr hbw6
              go_wp2_with fail
              refine HEn.out.mono ?_
              rintro e w8 ⟨rfl, hb8⟩
              have HB8 := Lib.hid hb8
              have htb8 := (hb8.cell (p := ⟨wq.heap.size, 0, none⟩) htl).trans htb
              clear hb8 hlk htb
              cases hen : endedB W2 ((ofZ z ts).map (·.2)) with
              | true =>
                have HR3 := Lib.hid (show serialL zm z [] L = serialL zm z M2 (L.drop (i + 1)) by rw [HR2.out, HEo.out, hen]; rfl)
                have HL9 := Lib.hid (show M2.length ≤ (i + 1) * 900 by omega)
                clear hen htb8
                go_wp2_with fail
                go_roundw
                case rel => exact ⟨i + 1, M2, _, by omega, by go_num, HRep.out.store.on HB8.out, HL9.out, HRep.out.blk.on HB8.out, HOfr.out.on HB8.out, HR3.out, HMo.out.thenBelow HB8.out⟩
                case measure => simp [intOf]; omega
              | false =>
                have HR3 := Lib.hid (show serialL zm z [] L = firstAt (askC ts) 0 zm by rw [HR2.out, HEo.out, hen]; rfl)
                have HI8 := Lib.hid (HIx.out w8 HB8.out)
                clear hen htb8
                go_wp2_with fail
                refine HI8.out.mono ?_
                rintro e w9 ⟨rfl, hb9⟩
                have HB9 := Lib.hid ((HBwr.out.trans (HB8.out.mono HBwr.out.size)).trans (hb9.mono (HBwr.out.trans (HB8.out.mono HBwr.out.size)).size))
                clear hb9
                go_wp2_with fail
                go_ret
                exact ⟨by rw [HLe.out, HR3.out]; try rfl, HB9.out⟩
        · have hge2 : ¬ (i : Int) < (L.length : Int) := by omega
          have HR3 := Lib.hid (show serialL zm z [] L = -1 by rw [hser, List.drop_eq_nil_of_le (by omega)]; rfl)
          have HB9 := Lib.hid hbw
          clear hst hrb hOf hser hm hbw
          go_wp2_with fail
          go_ret
          exact ⟨by rw [HLe.out, HR3.out]; try rfl, HB9.out⟩
end Go.Proofs.Ytffianjbljgnaaa
