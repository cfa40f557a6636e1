/-
  The walk of package dmsg's read. Condition: the text is shorter than 2^47.
-/
import Derived.Test.YtnijijcbdajodaaMsgD
import Derived.RangeFuncBox
import Derived.IntWalk
import Derived.Test.YtnijijcbdajodaaSettle
namespace Go.Proofs.Ytnijijcbdajodaa
set_option linter.unusedVariables false
set_option linter.unusedSimpArgs false
open Go.RowKit

/-- 'append(s, x...)' at the operation, whose run is known. -/
theorem oper_append_run {P : Program} {w : World} {o : Oper} {a : Act} {K : Act → World → Prop} {Q : Exit → Act → World → Prop} (s x : Operand) (t : TypeId)
    (ho : o.op = .call { callee := .builtin .append, args := #[s, x], argTypes := #[t, t] }) (v xv v' : Value) (w' : World) (hs : a.eval s = v) (hx : a.eval x = xv)
    (hrun : (Builtin.append_ #[t, t] o.type #[v, xv]).run P w = .ok v' w') (h : K (a.put o.dst v') w') : Oper.wp P o a w K Q := by
  unfold Oper.wp
  simp [execOp, ho, resolve, invoke, builtin, hs, hx, hrun, Result.andThen]
  exact h

/-- The message behind its first eight fields. -/
def readTail (kind te di id lsn low : Nat) (key hi : List UInt8) (r : Wire.Rd) : Option Msg :=
  let r8 := Wire.rNum r
  let r9 := Wire.rNum r8.2
  let r10 := Wire.rText r9.2
  let r11 := Wire.rNum r10.2
  let q := readRecs r11.1 r11.2
  let r12 := Wire.rNum q.2
  if kind < 12 ∧ r8.1 < 2 ∧ r9.1 < 2 ∧ r11.1 < 501 ∧ r12.1 < 100 ∧ r12.2 = some [] ∧ checkM ⟨kind, te, di, id, lsn, low, key, hi, r8.1 == 1, r9.1 == 1, r10.1, q.1, r12.1⟩ = 0
    then some ⟨kind, te, di, id, lsn, low, key, hi, r8.1 == 1, r9.1 == 1, r10.1, q.1, r12.1⟩ else none
theorem readBody_tail (t : List UInt8) {k0 te di id lsn low : Nat} {key hi : List UInt8} {r0 r1 r2 r3 r4 r5 r6 r7 : Wire.Rd} (h0 : Wire.rNum (some t) = (k0, r0)) (h1 : Wire.rNum r0 = (te, r1)) (h2 : Wire.rNum r1 = (di, r2)) (h3 : Wire.rNum r2 = (id, r3)) (h4 : Wire.rNum r3 = (lsn, r4)) (h5 : Wire.rNum r4 = (low, r5))
    (h6 : Wire.rText r5 = (key, r6)) (h7 : Wire.rText r6 = (hi, r7)) : readBody t = readTail k0 te di id lsn low key hi r7 := by
  unfold readBody readTail readHead
  simp only [h0, h1, h2, h3, h4, h5, h6, h7]
theorem readBody_kind (t : List UInt8) (h : ¬ (Wire.rNum (some t)).1 < 12) : readBody t = none := by
  unfold readBody readHead
  simp only
  rw [if_neg (fun hh => h hh.1)]

theorem run_load_msg {w : World} {b n c : Nat} {m : Msg} {a : Option Addr} (h : MsgAt w b m a n c) : (loadVar 26 ⟨b, 0, none⟩).run Try.prog w = .ok (msgV m a n c) w :=
  run_loadVar_row w b 26 26 _ (0, 0) _ h Try.underlying26 rfl (by kernel_rfl)
theorem results_msg {fn : Func} {p : Tmp} (h : fn.results = #[.cell p 26]) (tmps : Array Value) {w : World} {b n c : Nat} {m : Msg} {a : Option Addr} (hp : tmps.getD p undef = .pointer (some ⟨b, 0, none⟩))
    (hM : MsgAt w b m a n c) : (results fn tmps).run Try.prog w = .ok (msgV m a n c) w := by
  have hp' : tmps[p]?.getD undef = .pointer (some ⟨b, 0, none⟩) := by simpa using hp
  have := run_load_msg hM
  simp [results, h, hp', asAddr, Result.andThen, this]
theorem RecsAt.mod18 {w w' : World} {p : Option Addr} {n c : Nat} {rs : List Rec} {S : List Nat} (h : RecsAt w p n c rs) (hm : Mod S w w') (hne : ∀ g o, p = some ⟨g, o, none⟩ → g ∉ S) : RecsAt w' p n c rs :=
  ⟨h.len, h.cap, h.max, fun hn => by
    obtain ⟨g, o, rfl, hg, hc⟩ := h.at_ hn
    have hn : g ∉ S := hne g o rfl
    refine ⟨g, o, rfl, Nat.lt_of_lt_of_le hg hm.size, fun i hi => ?_⟩
    rw [hm.cell (b := g) (i := o + i * 4) hg hn, hm.cell (b := g) (i := o + i * 4 + 1) hg hn, hm.cell (b := g) (i := o + i * 4 + 2) hg hn, hm.cell (b := g) (i := o + i * 4 + 3) hg hn]
    exact hc i hi⟩

set_option maxRecDepth 100000 in
set_option maxHeartbeats 4000000 in
theorem read_any (s : List UInt8) (w : World) (hs : s.length ≤ 140737488355000) :
    Calls Try.prog 36 #[.string ⟨s.toArray⟩] w (ReadEnds w (readM s)) := by
  go_enter Try.func36, Try.ntmps36
  go_wp2_with fail
  have hb0 := (Below.refl w.heap.size w).alloc (Nat.le_refl _) (.cells #[.int .i64 0, .int .u64 0, .int .u64 0, .int .u64 0, .int .u64 0, .int .u64 0, .string ⟨#[]⟩, .string ⟨#[]⟩, .bool false, .bool false, .string ⟨#[]⟩, .slice none 0 0, .int .i64 0] 26)
  have hE0 : Blk (w.alloc (.cells #[.int .i64 0, .int .u64 0, .int .u64 0, .int .u64 0, .int .u64 0, .int .u64 0, .string ⟨#[]⟩, .string ⟨#[]⟩, .bool false, .bool false, .string ⟨#[]⟩, .slice none 0 0, .int .i64 0] 26)) w.heap.size (msgCellsV ⟨0, 0, 0, 0, 0, 0, [], [], false, false, [], [], 0⟩ (.slice none 0 0)) 26 := Blk.new _ _ _
  generalize w.alloc (.cells #[.int .i64 0, .int .u64 0, .int .u64 0, .int .u64 0, .int .u64 0, .int .u64 0, .string ⟨#[]⟩, .string ⟨#[]⟩, .bool false, .bool false, .string ⟨#[]⟩, .slice none 0 0, .int .i64 0] 26) = w0 at *
  have hsl := open_len s
  have HA := Lib.hid (show readM s = if (openI s).2 then readBody (openI s).1 else none from rfl)
  obtain ⟨t, is, ho⟩ : ∃ t is, openI s = (t, is) := ⟨_, _, rfl⟩
  rw [ho] at hsl
  simp only at hsl
  have HO := Lib.hid ho
  clear ho
  refine (open_any s w0 (by unfold maxLen; omega)).mono ?_
  rw [HO.out]
  rintro e w1 ⟨rfl, hb1⟩
  have hE1 := hE0.on hb1
  have hbel1 := hb0.on hb1
  have HA2 := Lib.hid (show readM s = if is then readBody t else none by rw [HA.out, HO.out])
  clear hE0 hb0 hb1 HA HO
  cases his : is
  · go_wp2_with fail
    refine (must_false _).mono ?_
    rintro e w2 ⟨rfl, rfl⟩
    refine ⟨rfl, hbel1, ?_⟩
    rw [HA2.out, his]
    exact rfl
  have HA3 := Lib.hid (show readM s = readBody t by rw [HA2.out, his]; rfl)
  clear HA2 his
  go_wp2_with fail
  refine (must_true _).mono ?_
  rintro e w2 ⟨rfl, rfl⟩
  go_wp2_with fail
  refine (newReader_any t w1).mono ?_
  rintro e w2 ⟨rfl, hr2, hb2⟩
  have hE2 := hE1.on hb2
  have hbel2 := hbel1.on hb2
  have hEQ : w.heap.size < w1.heap.size := hE1.lt
  clear hE1 hbel1 hb2
  generalize w1.heap.size = Q at *
  have hst : Wire.Rd.short (some t) := fun l hl => by cases hl; omega
  by_cases hk : (Wire.rNum (some t)).1 < 12
  case neg =>
    have HF := Lib.hid (show readM s = none by rw [HA3.out]; exact readBody_kind t hk)
    go_wp2_with fail
    refine (small_no Q 12 (some t) w2 hr2 hst hk).mono ?_
    rintro e w3 ⟨rfl, hm3⟩
    refine ⟨rfl, Mod.fresh hbel2 hm3 (by simp; omega), ?_⟩
    rw [HF.out]
  go_wp2_with fail
  refine (small_yes Q 12 (some t) w2 hr2 hst hk).mono ?_
  have s0 := rNum_short hst
  have hn0 := rfl (a := Wire.rNum (some t))
  obtain ⟨k0, r0, h0⟩ : ∃ k0 r0, Wire.rNum (some t) = (k0, r0) := ⟨_, _, rfl⟩
  rw [h0] at s0 hk ⊢
  simp only at s0 hk
  have H0 := Lib.hid h0
  clear hn0 h0
  rintro e w3 ⟨rfl, hr3, hm3⟩
  have hwk : IntKind.i64.wrap (k0 : Int) = (k0 : Int) := IntWalk.i64_in _ (by omega)
  go_wp2_with fail
  refine (rNum_any Q r0 _ hr3 s0).mono ?_
  have s1 := rNum_short s0
  have l1 := Wire.rNum_lt r0
  obtain ⟨te, r1, h1⟩ : ∃ x y, Wire.rNum r0 = (x, y) := ⟨_, _, rfl⟩
  rw [h1] at s1 l1 ⊢
  simp only at s1 l1
  have H1 := Lib.hid h1
  clear h1
  rintro e w4 ⟨rfl, hr4, hm4⟩
  go_wp2_with fail
  refine (rNum_any Q r1 _ hr4 s1).mono ?_
  have s2 := rNum_short s1
  have l2 := Wire.rNum_lt r1
  obtain ⟨di, r2, h2⟩ : ∃ x y, Wire.rNum r1 = (x, y) := ⟨_, _, rfl⟩
  rw [h2] at s2 l2 ⊢
  simp only at s2 l2
  have H2 := Lib.hid h2
  clear h2
  rintro e w5 ⟨rfl, hr5, hm5⟩
  go_wp2_with fail
  refine (rNum_any Q r2 _ hr5 s2).mono ?_
  have s3 := rNum_short s2
  have l3 := Wire.rNum_lt r2
  obtain ⟨id, r3, h3⟩ : ∃ x y, Wire.rNum r2 = (x, y) := ⟨_, _, rfl⟩
  rw [h3] at s3 l3 ⊢
  simp only at s3 l3
  have H3 := Lib.hid h3
  clear h3
  rintro e w6 ⟨rfl, hr6, hm6⟩
  go_wp2_with fail
  refine (rNum_any Q r3 _ hr6 s3).mono ?_
  have s4 := rNum_short s3
  have l4 := Wire.rNum_lt r3
  obtain ⟨lsn, r4, h4⟩ : ∃ x y, Wire.rNum r3 = (x, y) := ⟨_, _, rfl⟩
  rw [h4] at s4 l4 ⊢
  simp only at s4 l4
  have H4 := Lib.hid h4
  clear h4
  rintro e w7 ⟨rfl, hr7, hm7⟩
  go_wp2_with fail
  refine (rNum_any Q r4 _ hr7 s4).mono ?_
  have s5 := rNum_short s4
  have l5 := Wire.rNum_lt r4
  obtain ⟨low, r5, h5⟩ : ∃ x y, Wire.rNum r4 = (x, y) := ⟨_, _, rfl⟩
  rw [h5] at s5 l5 ⊢
  simp only at s5 l5
  have H5 := Lib.hid h5
  clear h5
  rintro e w8 ⟨rfl, hr8, hm8⟩
  go_wp2_with fail
  refine (rText_any Q r5 _ hr8 s5).mono ?_
  have s6 := rText_short s5
  have l6 := rText_len1 s5
  obtain ⟨key, r6, h6⟩ : ∃ x y, Wire.rText r5 = (x, y) := ⟨_, _, rfl⟩
  rw [h6] at s6 l6 ⊢
  simp only at s6 l6
  have H6 := Lib.hid h6
  clear h6
  rintro e w9 ⟨rfl, hr9, hm9⟩
  go_wp2_with fail
  refine (rText_any Q r6 _ hr9 s6).mono ?_
  have s7 := rText_short s6
  have l7 := rText_len1 s6
  obtain ⟨hi, r7, h7⟩ : ∃ x y, Wire.rText r6 = (x, y) := ⟨_, _, rfl⟩
  rw [h7] at s7 l7 ⊢
  simp only at s7 l7
  have H7 := Lib.hid h7
  clear h7
  rintro e w10 ⟨rfl, hr10, hm10⟩
  have HB := Lib.hid (show readM s = readTail k0 te di id lsn low key hi r7 by
    rw [HA3.out]; exact readBody_tail t H0.out H1.out H2.out H3.out H4.out H5.out H6.out H7.out)
  have hmA := hm3.trans (hm4.trans (hm5.trans (hm6.trans (hm7.trans (hm8.trans (hm9.trans hm10))))))
  have hE10 := hE2.mod hmA (by simp; omega)
  have hbel10 : Below w.heap.size w w10 := Mod.fresh hbel2 hmA (by simp; omega)
  clear HA3 H0 H1 H2 H3 H4 H5 H6 H7 hE2 hbel2 hmA hm3 hm4 hm5 hm6 hm7 hm8 hm9 hm10 hr2 hr3 hr4 hr5 hr6 hr7 hr8 hr9 s0 s1 s2 s3 s4 s5 s6 hst
  go_wp2_with fail
  have hM : Blk (w10.alloc (.cells (msgCellsV ⟨k0, te, di, id, lsn, low, key, hi, false, false, [], [], 0⟩ (.slice none 0 0)).toArray 26)) w10.heap.size (msgCellsV ⟨k0, te, di, id, lsn, low, key, hi, false, false, [], [], 0⟩ (.slice none 0 0)) 26 := Blk.new _ _ _
  have hE11 : Blk (w10.alloc (.cells (msgCellsV ⟨k0, te, di, id, lsn, low, key, hi, false, false, [], [], 0⟩ (.slice none 0 0)).toArray 26)) w.heap.size (msgCellsV ⟨0, 0, 0, 0, 0, 0, [], [], false, false, [], [], 0⟩ (.slice none 0 0)) 26 := Blk.alloc hE10 _
  have hbel11 : Below w.heap.size w (w10.alloc (.cells (msgCellsV ⟨k0, te, di, id, lsn, low, key, hi, false, false, [], [], 0⟩ (.slice none 0 0)).toArray 26)) := below_one hbel10 _
  have hr11 : RdAt (w10.alloc (.cells (msgCellsV ⟨k0, te, di, id, lsn, low, key, hi, false, false, [], [], 0⟩ (.slice none 0 0)).toArray 26)) Q r7 := Blk.alloc hr10 _
  have HW := Lib.hid (show w10.alloc (.cells (msgCellsV ⟨k0, te, di, id, lsn, low, key, hi, false, false, [], [], 0⟩ (.slice none 0 0)).toArray 26) = w10.alloc (.cells #[.int .i64 k0, .int .u64 te, .int .u64 di, .int .u64 id, .int .u64 lsn, .int .u64 low, .string ⟨key.toArray⟩, .string ⟨hi.toArray⟩, .bool false, .bool false, .string ⟨#[]⟩, .slice none 0 0, .int .i64 0] 26) from rfl)
  rw [HW.out] at hM hE11 hbel11 hr11
  have hQ10 := hr10.lt
  have hE10l := hE10.lt
  clear HW hE10 hbel10 hr10
  generalize w10.alloc (.cells #[.int .i64 k0, .int .u64 te, .int .u64 di, .int .u64 id, .int .u64 lsn, .int .u64 low, .string ⟨key.toArray⟩, .string ⟨hi.toArray⟩, .bool false, .bool false, .string ⟨#[]⟩, .slice none 0 0, .int .i64 0] 26) = w11 at *
  generalize w10.heap.size = M at *
  by_cases hk8 : (Wire.rNum r7).1 < 2
  case neg =>
    have HF := Lib.hid (show readM s = none by rw [HB.out]; unfold readTail; simp only; rw [if_neg (fun hh => hk8 hh.2.1)])
    refine (small_no Q 2 r7 w11 hr11 s7 hk8).mono ?_
    rintro e w3 ⟨rfl, hm3⟩
    refine ⟨rfl, Mod.fresh hbel11 hm3 (by simp; omega), ?_⟩
    rw [HF.out]
  refine (small_yes Q 2 r7 w11 hr11 s7 hk8).mono ?_
  have s8 := rNum_short s7
  obtain ⟨b8, r8, h8⟩ : ∃ x y, Wire.rNum r7 = (x, y) := ⟨_, _, rfl⟩
  rw [h8] at s8 hk8 ⊢
  simp only at s8 hk8
  have H8 := Lib.hid h8
  clear h8
  rintro e w12 ⟨rfl, hr12, hm12⟩
  have hbel12 : Below w.heap.size w w12 := Mod.fresh hbel11 hm12 (by simp; omega)
  by_cases hk9 : (Wire.rNum r8).1 < 2
  case neg =>
    have HF := Lib.hid (show readM s = none by rw [HB.out]; unfold readTail; rw [H8.out]; simp only; rw [if_neg (fun hh => hk9 hh.2.2.1)])
    go_wp2_with fail
    refine (small_no Q 2 r8 w12 hr12 s8 hk9).mono ?_
    rintro e w3 ⟨rfl, hm3⟩
    refine ⟨rfl, Mod.fresh hbel12 hm3 (by simp; omega), ?_⟩
    rw [HF.out]
  have hdel : ((b8 : Int) == 1) = (b8 == 1) := by rw [Bool.eq_iff_iff]; simp; omega
  go_wp2_with fail
  refine (small_yes Q 2 r8 w12 hr12 s8 hk9).mono ?_
  have s9 := rNum_short s8
  obtain ⟨b9, r9, h9⟩ : ∃ x y, Wire.rNum r8 = (x, y) := ⟨_, _, rfl⟩
  rw [h9] at s9 hk9 ⊢
  simp only at s9 hk9
  have H9 := Lib.hid h9
  clear h9
  rintro e w13 ⟨rfl, hr13, hm13⟩
  have hmB := hm12.trans hm13
  have hMQ : M ≠ Q := by omega
  have hME : M ≠ w.heap.size := by omega
  have hM13 := hM.mod hmB (by simpa using hMQ)
  have hE13 := hE11.mod hmB (by simp; omega)
  have hbel13 : Below w.heap.size w w13 := Mod.fresh hbel12 hm13 (by simp; omega)
  have hfnd : ((b9 : Int) == 1) = (b9 == 1) := by rw [Bool.eq_iff_iff]; simp; omega
  have z8 := hM13.free 8
  have z9 := hM13.free 9
  have y8 : w13.cell? ⟨M, 8, none⟩ = some (.bool false) := by rw [hM13.cell]; rfl
  have y9 : w13.cell? ⟨M, 9, none⟩ = some (.bool false) := by rw [hM13.cell]; rfl
  clear hM hE11 hbel11 hr11 hbel12 hr12 hm12 hm13 hmB
  go_wp2_with fail
  have hM14 : Blk ((w13.setCell ⟨M, 8, none⟩ (.bool (b8 == 1))).setCell ⟨M, 9, none⟩ (.bool (b9 == 1))) M (msgCellsV ⟨k0, te, di, id, lsn, low, key, hi, b8 == 1, b9 == 1, [], [], 0⟩ (.slice none 0 0)) 26 := (hM13.set 8 _).set 9 _
  have hE14 : Blk ((w13.setCell ⟨M, 8, none⟩ (.bool (b8 == 1))).setCell ⟨M, 9, none⟩ (.bool (b9 == 1))) w.heap.size (msgCellsV ⟨0, 0, 0, 0, 0, 0, [], [], false, false, [], [], 0⟩ (.slice none 0 0)) 26 := Blk.other (Blk.other hE13 _ _ (Ne.symm hME)) _ _ (Ne.symm hME)
  have hr14 : RdAt ((w13.setCell ⟨M, 8, none⟩ (.bool (b8 == 1))).setCell ⟨M, 9, none⟩ (.bool (b9 == 1))) Q r9 := Blk.other (Blk.other hr13 _ _ (Ne.symm hMQ)) _ _ (Ne.symm hMQ)
  have hbel14 : Below w.heap.size w ((w13.setCell ⟨M, 8, none⟩ (.bool (b8 == 1))).setCell ⟨M, 9, none⟩ (.bool (b9 == 1))) := (hbel13.setCell (by simp; omega) _).setCell (by simp; omega) _
  clear hM13 hE13 hr13 hbel13 z8 z9 y8 y9 hdel hfnd
  generalize (w13.setCell ⟨M, 8, none⟩ (.bool (b8 == 1))).setCell ⟨M, 9, none⟩ (.bool (b9 == 1)) = w14 at *
  refine (rText_any Q r9 w14 hr14 s9).mono ?_
  have s10 := rText_short s9
  have l10 := rText_len1 s9
  obtain ⟨val, r10, h10⟩ : ∃ x y, Wire.rText r9 = (x, y) := ⟨_, _, rfl⟩
  rw [h10] at s10 l10 ⊢
  simp only at s10 l10
  have H10 := Lib.hid h10
  clear h10
  rintro e w15 ⟨rfl, hr15, hm15⟩
  have hM15 := hM14.mod hm15 (by simpa using hMQ)
  have hE15 := hE14.mod hm15 (by simp; omega)
  have hbel15 : Below w.heap.size w w15 := Mod.fresh hbel14 hm15 (by simp; omega)
  have z10 := hM15.free 10
  have y10 : w15.cell? ⟨M, 10, none⟩ = some (.string ⟨#[]⟩) := by rw [hM15.cell]; rfl
  clear hM14 hE14 hr14 hbel14 hm15
  go_wp2_with fail
  have hM16 : Blk (w15.setCell ⟨M, 10, none⟩ (.string ⟨val.toArray⟩)) M (msgCellsV ⟨k0, te, di, id, lsn, low, key, hi, b8 == 1, b9 == 1, val, [], 0⟩ (.slice none 0 0)) 26 := hM15.set 10 _
  have hE16 : Blk (w15.setCell ⟨M, 10, none⟩ (.string ⟨val.toArray⟩)) w.heap.size (msgCellsV ⟨0, 0, 0, 0, 0, 0, [], [], false, false, [], [], 0⟩ (.slice none 0 0)) 26 := Blk.other hE15 _ _ (Ne.symm hME)
  have hr16 : RdAt (w15.setCell ⟨M, 10, none⟩ (.string ⟨val.toArray⟩)) Q r10 := Blk.other hr15 _ _ (Ne.symm hMQ)
  have hbel16 : Below w.heap.size w (w15.setCell ⟨M, 10, none⟩ (.string ⟨val.toArray⟩)) := hbel15.setCell (by simp; omega) _
  clear hM15 hE15 hr15 hbel15 z10 y10
  generalize w15.setCell ⟨M, 10, none⟩ (.string ⟨val.toArray⟩) = w16 at *
  by_cases hk11 : (Wire.rNum r10).1 < 501
  case neg =>
    have HF := Lib.hid (show readM s = none by rw [HB.out]; unfold readTail; rw [H8.out]; simp only; rw [H9.out]; simp only; rw [H10.out]; simp only; rw [if_neg (fun hh => hk11 hh.2.2.2.1)])
    refine (small_no Q 501 r10 w16 hr16 s10 hk11).mono ?_
    rintro e w3 ⟨rfl, hm3⟩
    refine ⟨rfl, Mod.fresh hbel16 hm3 (by simp; omega), ?_⟩
    rw [HF.out]
  refine (small_yes Q 501 r10 w16 hr16 s10 hk11).mono ?_
  have s11 := rNum_short s10
  obtain ⟨c, r11, h11⟩ : ∃ x y, Wire.rNum r10 = (x, y) := ⟨_, _, rfl⟩
  rw [h11] at s11 hk11 ⊢
  simp only at s11 hk11
  have H11 := Lib.hid h11
  clear h11
  rintro e w17 ⟨rfl, hr17, hm17⟩
  have hM17 := hM16.mod hm17 (by simpa using hMQ)
  have hE17 := hE16.mod hm17 (by simp; omega)
  have hbel17 : Below w.heap.size w w17 := Mod.fresh hbel16 hm17 (by simp; omega)
  have HB2 := Lib.hid (show readM s = if (Wire.rNum (readRecs c r11).2).1 < 100 ∧ (Wire.rNum (readRecs c r11).2).2 = some [] ∧ checkM ⟨k0, te, di, id, lsn, low, key, hi, b8 == 1, b9 == 1, val, (readRecs c r11).1, (Wire.rNum (readRecs c r11).2).1⟩ = 0
      then some ⟨k0, te, di, id, lsn, low, key, hi, b8 == 1, b9 == 1, val, (readRecs c r11).1, (Wire.rNum (readRecs c r11).2).1⟩ else none by
    rw [HB.out]; unfold readTail; rw [H8.out]; simp only; rw [H9.out]; simp only; rw [H10.out]; simp only; rw [H11.out]
    simp only [hk, hk8, hk9, hk11, true_and])
  clear HB H8 H9 H10 H11 hM16 hE16 hr16 hbel16 hm17 s7 s8 s9 s10
  go_wp2_with fail
  have hto0 := RecTo.start (c := c) hM17 hr17 s11 hMQ
  have hRb : w.heap.size ≤ w17.heap.size := hbel17.size
  go_loopw [47] (fun s47 wr => ∃ (k : Nat) (rs : List Rec) (v : Value) (r : Wire.Rd), k ≤ c ∧ s47 = .int .u64 k ∧ RecTo w17.heap.size M Q c ⟨k0, te, di, id, lsn, low, key, hi, b8 == 1, b9 == 1, val, [], 0⟩ r11 k rs v r wr ∧
      Blk wr w.heap.size (msgCellsV ⟨0, 0, 0, 0, 0, 0, [], [], false, false, [], [], 0⟩ (.slice none 0 0)) 26 ∧ Below w.heap.size w wr) (fun s47 _ => c - (intOf s47).toNat)
  case atStart => exact ⟨0, [], .slice none 0 0, r11, by omega, rfl, hto0, hE17, hbel17⟩
  case round =>
    obtain ⟨k, rs, v, r, hkc, rfl, hto, hEr, hbw⟩ := hrel
    by_cases hlt : k < c
    · go_upto_region 9 with fail
      have hrd := hto.rd
      have hsr := hto.short
      have hlt4 := hto.lt
      have hMlt : M < wr.heap.size := by omega
      have c11 : wr.cell? ⟨M, 11, none⟩ = some v := by rw [hto.msg.cell]; rfl
      obtain ⟨ka, q1, ha⟩ : ∃ x y, Wire.rText r = (x, y) := ⟨_, _, rfl⟩
      have sq1 := rText_short hsr
      have la := rText_len1 hsr
      rw [ha] at sq1 la
      simp only at sq1 la
      obtain ⟨lb, q2, hb⟩ : ∃ x y, Wire.rNum q1 = (x, y) := ⟨_, _, rfl⟩
      have sq2 := rNum_short sq1
      have lb2 := Wire.rNum_lt q1
      rw [hb] at sq2 lb2
      simp only at sq2 lb2
      obtain ⟨vc, q3, hc⟩ : ∃ x y, Wire.rText q2 = (x, y) := ⟨_, _, rfl⟩
      have sq3 := rText_short sq2
      have lc := rText_len1 sq2
      rw [hc] at sq3 lc
      simp only at sq3 lc
      have HK := Lib.hid (show ∀ wa, Mod [Q] wr wa → wa.cell? ⟨M, 11, none⟩ = some v from fun wa hm => (hm.cell hMlt (by simpa using hMQ)).trans c11)
      have HP1 := Lib.hid (show ∀ wa, Mod [Q] wr wa → RdAt wa Q r → Calls Try.prog 78 #[.pointer (some ⟨Q, 0, none⟩)] wa fun e w' => e = .returned (.string ⟨ka.toArray⟩) ∧ RdAt w' Q q1 ∧ Mod [Q] wr w' from
        fun wa hm hr => (rText_any Q r wa hr hsr).mono fun e w' h => by rw [ha] at h; exact ⟨h.1, h.2.1, hm.trans h.2.2⟩)
      have HP2 := Lib.hid (show ∀ wa, Mod [Q] wr wa → RdAt wa Q q1 → Calls Try.prog 77 #[.pointer (some ⟨Q, 0, none⟩)] wa fun e w' => e = .returned (.int .u64 lb) ∧ RdAt w' Q q2 ∧ Mod [Q] wr w' from
        fun wa hm hr => (rNum_any Q q1 wa hr sq1).mono fun e w' h => by rw [hb] at h; exact ⟨h.1, h.2.1, hm.trans h.2.2⟩)
      have HP3 := Lib.hid (show ∀ wa, Mod [Q] wr wa → RdAt wa Q q2 → Calls Try.prog 78 #[.pointer (some ⟨Q, 0, none⟩)] wa fun e w' => e = .returned (.string ⟨vc.toArray⟩) ∧ RdAt w' Q q3 ∧ Mod [Q] wr w' from
        fun wa hm hr => (rText_any Q q2 wa hr sq2).mono fun e w' h => by rw [hc] at h; exact ⟨h.1, h.2.1, hm.trans h.2.2⟩)
      have HRd := Lib.hid (show readRecs (c - k) r = (⟨ka, lb, false, vc⟩ :: (readRecs (c - (k + 1)) q3).1, (readRecs (c - (k + 1)) q3).2) by
        rw [show c - k = (c - (k + 1)) + 1 by omega, readRecs]; simp only [ha, hb, hc])
      clear ha hb hc c11
      refine wp_region_float [0, 1, 2, 4, 6] [3, 5, 7, 8, 9, 10, 11, 12] [12] (fun w' => w'.cell? ⟨M, 11, none⟩ = some v) (by kernel_rfl) (by kernel_rfl) (by kernel_rfl) (by kernel_rfl) (fun c a d v w h => by cases d <;> exact h) (HK.out _ (Mod.refl _ _).drew) ?_
      simp only [pick, List.map_cons, List.map_nil, List.getD_cons_zero, List.getD_cons_succ]
      repeat (
        refine takes_val (v := ?_) ?_ (fun w' hS => ?_) ?_
        rotate_left
        · rfl
        · go_simp
          with_reducible rfl
        simp only [Act.put, List.setIfInBounds_toArray, List.set_cons_zero, List.set_cons_succ])
      refine takes_nil ?_
      refine seqW_step (by rfl) (fun K hK => ?_)
      go_simp
      refine (HP1.out _ (Mod.refl _ _).drew hrd.drew).mono ?_
      rintro e wa ⟨rfl, hra, hma⟩
      refine hK.out _ _ (.inr (HK.out _ hma)) ?_
      clear hK K
      refine seqW_step (by rfl) (fun K hK => ?_)
      go_simp
      refine (HP2.out _ hma hra).mono ?_
      rintro e wb ⟨rfl, hrb, hmb⟩
      refine hK.out _ _ (.inr (HK.out _ hmb)) ?_
      clear hK K hra hma
      refine seqW_step (by rfl) (fun K hK => ?_)
      go_simp
      refine (HP3.out _ hmb hrb).mono ?_
      rintro e wx ⟨rfl, hrx, hmx⟩
      refine hK.out _ _ (.inr (HK.out _ hmx)) ?_
      clear hK K hrb hmb
      refine seqW_step (by rfl) (fun K hK => ?_)
      go_simp
      refine hK.out _ _ (.inr (HK.out _ hmx)) ?_
      clear hK K
      refine seqW_step (by rfl) (fun K hK => ?_)
      go_simp
      refine hK.out _ _ (.inr (HK.out _ (hmx.alloc _))) ?_
      clear hK K
      obtain ⟨hMx, hownx⟩ := hto.kept hmx (by simp)
      obtain ⟨v', wg, hrun, hown', hmg⟩ := append_rec hownx (by omega) (by have := hmx.size; omega) ⟨ka, lb, false, vc⟩ 23 #[.string ⟨ka.toArray⟩, .int .u64 lb, .bool false, .string ⟨vc.toArray⟩] rfl wx.heap.size rfl
      refine seqW_step (by rfl) (fun K hK => ?_)
      obtain ⟨g, cap, rfl⟩ := ownsRow_succ hown'
      have hMg : Blk wg M (msgCellsV ⟨k0, te, di, id, lsn, low, key, hi, b8 == 1, b9 == 1, val, [], 0⟩ v) 26 := hMx.mod hmg (by
        intro hin
        have h1 : v.ownBlock = some M := by simpa using hin
        have := hto.own.lt _ h1
        omega)
      have f11 := hMg.free 11
      have g11 : wg.cell? ⟨M, 11, none⟩ = some v := by rw [hMg.cell]; rfl
      refine oper_append_run _ _ _ rfl _ _ _ _ rfl rfl hrun ?_
      simp only [Act.put, List.setIfInBounds_toArray, List.set_cons_zero, List.set_cons_succ]
      refine hK.out _ _ (.inr g11) ?_
      clear hK K
      refine seqW_step (by rfl) (fun K hK => ?_)
      go_simp
      refine hK.out _ _ (.inr g11) ?_
      clear hK K
      refine seqW_step (by rfl) (fun K hK => ?_)
      go_simp
      refine hK.out _ _ (.inl (by rfl)) (seqW_nil ?_)
      clear hK K
      go_wp2_with fail
      have hvQ : ∀ y ∈ v.ownBlock.toList, w17.heap.size ≤ y := by
        intro y hy
        cases h : v.ownBlock with
        | none => rw [h] at hy; simp at hy
        | some z =>
          rw [h] at hy
          simp only [Option.toList_some, List.mem_singleton] at hy
          subst hy
          have := hto.own.lt _ h
          omega
      have hsz1 := hmx.size
      have hsz2 := hmg.size
      have hmall : Below w.heap.size w (wg.setCell ⟨M, 11, none⟩ (.slice (some ⟨g, 0, none⟩) (k + 1) cap)) := (Mod.fresh (Mod.fresh hbw hmx (by simp; omega)) hmg (fun y hy => by have := hvQ _ hy; omega)).setCell (by simp; omega) _
      have hEg : Blk wg w.heap.size (msgCellsV ⟨0, 0, 0, 0, 0, 0, [], [], false, false, [], [], 0⟩ (.slice none 0 0)) 26 := (hEr.mod hmx (by simp; omega)).mod hmg (fun hin => by have := hvQ _ hin; omega)
      have hrg : RdAt wg Q q3 := Blk.mod hrx hmg (fun hin => by have := hvQ _ hin; omega)
      go_roundw
      case rel =>
        refine ⟨k + 1, rs ++ [⟨ka, lb, false, vc⟩], _, q3, by omega, by go_num, ⟨⟨hlt4.1, hlt4.2.1, hlt4.2.2.1, by simp; omega⟩, hMg.set 11 _, ownsRow_setCell_below hown' hlt4.1 _, by simp [hto.len], Blk.other hrg _ _ (Ne.symm hMQ), sq3, ?_, ?_⟩, Blk.other hEg _ _ (Ne.symm hME), hmall⟩
        · intro y hy
          rw [List.mem_append, List.mem_singleton] at hy
          rcases hy with hy | rfl
          · exact hto.oks y hy
          · exact ⟨Nat.le_trans la (by decide), Nat.le_trans lc (by decide), lb2⟩
        · rw [hto.all, HRd.out]; simp
      case measure => simp [intOf]; omega
    · obtain rfl : k = c := by omega
      have hall := hto.all
      rw [Nat.sub_self] at hall
      have hrec : readRecs k r11 = (rs, r) := by rw [hall]; simp [readRecs]
      have hkp := hto.recs (by omega)
      obtain ⟨p, n, cp, rfl, hrs, hpB⟩ := hkp
      have HC := Lib.hid (show readM s = if (Wire.rNum r).1 < 100 ∧ (Wire.rNum r).2 = some [] ∧ checkM ⟨k0, te, di, id, lsn, low, key, hi, b8 == 1, b9 == 1, val, rs, (Wire.rNum r).1⟩ = 0
          then some ⟨k0, te, di, id, lsn, low, key, hi, b8 == 1, b9 == 1, val, rs, (Wire.rNum r).1⟩ else none by rw [HB2.out, hrec])
      have hMr := hto.msg
      have hrd := hto.rd
      have hsr := hto.short
      have hoks := hto.oks
      have hrl := hto.len
      have hlt4 := hto.lt
      clear HB2 hall hrec hto hto0 hr17 hM17 hE17 hbel17 hlt
      by_cases hk12 : (Wire.rNum r).1 < 100
      case neg =>
        have HF := Lib.hid (show readM s = none by rw [HC.out, if_neg (fun hh => hk12 hh.1)])
        go_wp2_with fail
        refine (small_no Q 100 r wr hrd hsr hk12).mono ?_
        rintro e w3 ⟨rfl, hm3⟩
        refine ⟨rfl, Mod.fresh hbw hm3 (by simp; omega), ?_⟩
        rw [HF.out]
      obtain ⟨er, q, hq⟩ : ∃ x y, Wire.rNum r = (x, y) := ⟨_, _, rfl⟩
      have hwe : IntKind.i64.wrap (er : Int) = (er : Int) := IntWalk.i64_in _ (by rw [hq] at hk12; simp only at hk12; omega)
      have hsm := small_yes Q 100 r wr hrd hsr hk12
      rw [hq] at hsm hk12
      have HC2 := Lib.hid (show readM s = if q = some [] ∧ checkM ⟨k0, te, di, id, lsn, low, key, hi, b8 == 1, b9 == 1, val, rs, er⟩ = 0
          then some ⟨k0, te, di, id, lsn, low, key, hi, b8 == 1, b9 == 1, val, rs, er⟩ else none by
        rw [HC.out, hq]; simp only [hk12, true_and])
      have Hsm := Lib.hid hsm
      simp only at hk12
      clear hq hsm HC
      go_wp2_with fail
      refine Hsm.out.mono ?_
      rintro e w18 ⟨rfl, hr18, hm18⟩
      have hM18 := hMr.mod hm18 (by simpa using hMQ)
      have hE18 := hEr.mod hm18 (by simp; omega)
      have hbel18 : Below w.heap.size w w18 := Mod.fresh hbw hm18 (by simp; omega)
      have hrs18 : RecsAt w18 p n cp rs := hrs.mod18 hm18 (fun g o e => by have := hpB g o e; simp; omega)
      have z12 := hM18.free 12
      have y12 : w18.cell? ⟨M, 12, none⟩ = some (.int .i64 0) := by rw [hM18.cell]; rfl
      clear hMr hEr hrd hbw hrs hm18
      go_wp2_with fail
      obtain ⟨m, hm⟩ : ∃ m : Msg, m = ⟨k0, te, di, id, lsn, low, key, hi, b8 == 1, b9 == 1, val, rs, er⟩ := ⟨_, rfl⟩
      have hM19 : MsgAt (w18.setCell ⟨M, 12, none⟩ (.int .i64 er)) M m p n cp := by
        have h : Blk (w18.setCell ⟨M, 12, none⟩ (.int .i64 er)) M (msgCells ⟨k0, te, di, id, lsn, low, key, hi, b8 == 1, b9 == 1, val, rs, er⟩ p n cp) 26 := hM18.set 12 _
        rw [hm]; exact h
      have hE19 : Blk (w18.setCell ⟨M, 12, none⟩ (.int .i64 er)) w.heap.size (msgCellsV ⟨0, 0, 0, 0, 0, 0, [], [], false, false, [], [], 0⟩ (.slice none 0 0)) 26 := Blk.other hE18 _ _ (Ne.symm hME)
      have hr19 : RdAt (w18.setCell ⟨M, 12, none⟩ (.int .i64 er)) Q q := Blk.other hr18 _ _ (Ne.symm hMQ)
      have hbel19 : Below w.heap.size w (w18.setCell ⟨M, 12, none⟩ (.int .i64 er)) := hbel18.setCell (by simp; omega) _
      have hrs19 : RecsAt (w18.setCell ⟨M, 12, none⟩ (.int .i64 er)) p n cp m.recs := by
        rw [hm]
        exact hrs18.other _ _ (fun g o e => by have := hpB g o e; show g ≠ M; omega)
      have hok : m.ok := by
        rw [hm]
        refine ⟨by simp only; omega, l1, l2, l3, l4, l5, ?_, ?_, ?_, hoks, by simp only; omega⟩
        · simp only; omega
        · simp only; omega
        · simp only; omega
      have HC3 := Lib.hid (show readM s = if q = some [] ∧ checkM m = 0 then some m else none by rw [HC2.out, hm])
      clear hM18 hE18 hr18 hbel18 hrs18 z12 y12 HC2 hm hoks Hsm hwe
      generalize w18.setCell ⟨M, 12, none⟩ (.int .i64 er) = w19 at *
      refine (end_any Q q w19 hr19).mono ?_
      by_cases hqz : q = some []
      · rw [show decide (q = some []) = true from by simp [hqz]]
        rintro e wz ⟨rfl, rfl⟩
        obtain ⟨c0, c1, c2, c3, c4, c5, c6, c7, c8, c9, c10, c11, c12⟩ := hM19.cells
        have hch := check_any m p n cp w19 hrs19 hok
        unfold msgV at hch
        have Hch := Lib.hid hch
        clear hch
        go_wp2_with fail
        refine Hch.out.mono ?_
        rintro e w20 ⟨rfl, hb20⟩
        have hM20 : MsgAt w20 M m p n cp := Blk.on hM19 hb20
        have hE20 := hE19.on hb20
        have hbel20 := hbel19.on hb20
        have hrs20 := hrs19.on hb20
        clear c0 c1 c2 c3 c4 c5 c6 c7 c8 c9 c10 c11 c12 Hch hM19 hE19 hr19 hbel19 hrs19 hb20
        by_cases hcz : checkM m = 0
        · have HZ := Lib.hid (show readM s = some m by rw [HC3.out, if_pos ⟨hqz, hcz⟩])
          rw [hcz]
          clear hqz hcz HC3
          go_wp2_with fail
          refine (must_true _).mono ?_
          rintro e wy ⟨rfl, rfl⟩
          obtain ⟨c0, c1, c2, c3, c4, c5, c6, c7, c8, c9, c10, c11, c12⟩ := hM20.cells
          have e0 : w20.cell? ⟨w.heap.size, 0, none⟩ = some (.int .i64 0) := by rw [hE20.cell]; rfl
          have f0 := hE20.free 0
          have e1 : w20.cell? ⟨w.heap.size, 1, none⟩ = some (.int .u64 0) := by rw [hE20.cell]; rfl
          have f1 := hE20.free 1
          have e2 : w20.cell? ⟨w.heap.size, 2, none⟩ = some (.int .u64 0) := by rw [hE20.cell]; rfl
          have f2 := hE20.free 2
          have e3 : w20.cell? ⟨w.heap.size, 3, none⟩ = some (.int .u64 0) := by rw [hE20.cell]; rfl
          have f3 := hE20.free 3
          have e4 : w20.cell? ⟨w.heap.size, 4, none⟩ = some (.int .u64 0) := by rw [hE20.cell]; rfl
          have f4 := hE20.free 4
          have e5 : w20.cell? ⟨w.heap.size, 5, none⟩ = some (.int .u64 0) := by rw [hE20.cell]; rfl
          have f5 := hE20.free 5
          have e6 : w20.cell? ⟨w.heap.size, 6, none⟩ = some (.string ⟨#[]⟩) := by rw [hE20.cell]; rfl
          have f6 := hE20.free 6
          have e7 : w20.cell? ⟨w.heap.size, 7, none⟩ = some (.string ⟨#[]⟩) := by rw [hE20.cell]; rfl
          have f7 := hE20.free 7
          have e8 : w20.cell? ⟨w.heap.size, 8, none⟩ = some (.bool false) := by rw [hE20.cell]; rfl
          have f8 := hE20.free 8
          have e9 : w20.cell? ⟨w.heap.size, 9, none⟩ = some (.bool false) := by rw [hE20.cell]; rfl
          have f9 := hE20.free 9
          have e10 : w20.cell? ⟨w.heap.size, 10, none⟩ = some (.string ⟨#[]⟩) := by rw [hE20.cell]; rfl
          have f10 := hE20.free 10
          have e11 : w20.cell? ⟨w.heap.size, 11, none⟩ = some (.slice none 0 0) := by rw [hE20.cell]; rfl
          have f11 := hE20.free 11
          have e12 : w20.cell? ⟨w.heap.size, 12, none⟩ = some (.int .i64 0) := by rw [hE20.cell]; rfl
          have f12 := hE20.free 12
          have hBf := (((((((((((((hE20.set 0 (.int .i64 m.kind)).set 1 (.int .u64 m.te)).set 2 (.int .u64 m.di)).set 3 (.int .u64 m.id)).set 4 (.int .u64 m.lsn)).set 5 (.int .u64 m.low)).set 6 (.string ⟨m.key.toArray⟩)).set 7 (.string ⟨m.hi.toArray⟩)).set 8 (.bool m.del)).set 9 (.bool m.found)).set 10 (.string ⟨m.val.toArray⟩)).set 11 (.slice p n cp)).set 12 (.int .i64 m.err))
          have hMf := ((((((((((((((Mod.refl [w.heap.size] w20).setCell ⟨w.heap.size, 0, none⟩ (.int .i64 m.kind) (.inl (by simp))).setCell ⟨w.heap.size, 1, none⟩ (.int .u64 m.te) (.inl (by simp))).setCell ⟨w.heap.size, 2, none⟩ (.int .u64 m.di) (.inl (by simp))).setCell ⟨w.heap.size, 3, none⟩ (.int .u64 m.id) (.inl (by simp))).setCell ⟨w.heap.size, 4, none⟩ (.int .u64 m.lsn) (.inl (by simp))).setCell ⟨w.heap.size, 5, none⟩ (.int .u64 m.low) (.inl (by simp))).setCell ⟨w.heap.size, 6, none⟩ (.string ⟨m.key.toArray⟩) (.inl (by simp))).setCell ⟨w.heap.size, 7, none⟩ (.string ⟨m.hi.toArray⟩) (.inl (by simp))).setCell ⟨w.heap.size, 8, none⟩ (.bool m.del) (.inl (by simp))).setCell ⟨w.heap.size, 9, none⟩ (.bool m.found) (.inl (by simp))).setCell ⟨w.heap.size, 10, none⟩ (.string ⟨m.val.toArray⟩) (.inl (by simp))).setCell ⟨w.heap.size, 11, none⟩ (.slice p n cp) (.inl (by simp))).setCell ⟨w.heap.size, 12, none⟩ (.int .i64 m.err) (.inl (by simp)))
          have HE2 := Lib.hid hME
          clear hME
          go_wp2_with fail
          refine bodyPost_ret (results_msg rfl _ rfl hBf) rfl ⟨Mod.fresh hbel20 hMf (by simp), ?_⟩
          rw [HZ.out]
          exact ⟨p, n, cp, rfl, hrs20.mod18 hMf (fun g o e => by have := hpB g o e; simp; omega), hok, fun g o e => by have := hpB g o e; omega⟩
        · have HZ := Lib.hid (show readM s = none by rw [HC3.out, if_neg (fun h => hcz h.2)])
          have hci : ((checkM m : Int) == 0) = false := by simp; omega
          go_wp2_with fail
          refine (must_false _).mono ?_
          rintro e wy ⟨rfl, rfl⟩
          refine ⟨rfl, hbel20, ?_⟩
          rw [HZ.out]
      · have HZ := Lib.hid (show readM s = none by rw [HC3.out, if_neg (fun h => hqz h.1)])
        rw [show decide (q = some []) = false from by simp [hqz]]
        rintro e wz ⟨rfl, rfl⟩
        go_wp2_with fail
        refine (must_false _).mono ?_
        rintro e wy ⟨rfl, rfl⟩
        refine ⟨rfl, hbel19, ?_⟩
        rw [HZ.out]
end Go.Proofs.Ytnijijcbdajodaa
