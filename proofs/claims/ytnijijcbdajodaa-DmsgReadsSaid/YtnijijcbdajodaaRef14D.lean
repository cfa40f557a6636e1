/-
  The walk of the document's Decode of layer 14. Condition: the text is shorter than 2^47.
-/
import Derived.Test.YtnijijcbdajodaaRef14E
import Derived.Test.YtnijijcbdajodaaRef14P
import Derived.IntWalk
import Derived.Deep.CutBlock
import Derived.Deep.DeepCutAuto

namespace Go.Proofs.Ytnijijcbdajodaa
set_option linter.unusedVariables false
set_option linter.unusedSimpArgs false
open Go.RowKit

/-- k numbers that are read, one behind the other. -/
def readNums : Nat → Wire.Rd → List Nat × Wire.Rd
  | 0, r => ([], r)
  | k + 1, r => ((readNums k r).1 ++ [(Wire.rNum (readNums k r).2).1], (Wire.rNum (readNums k r).2).2)
theorem readNums_len : ∀ (k : Nat) (r : Wire.Rd), (readNums k r).1.length = k
  | 0, _ => rfl
  | k + 1, r => by rw [readNums, List.length_append, readNums_len k r]; rfl
theorem readNums_short : ∀ (k : Nat) (r : Wire.Rd), Wire.Rd.short r → Wire.Rd.short (readNums k r).2
  | 0, _, h => h
  | k + 1, r, h => rNum_short (readNums_short k r h)
theorem set_next {α β : Type} (f : α → β) (ns : List α) (z x : α) (i n : Nat) (h : ns.length = i) (hi : i < n) : ((ns ++ List.replicate (n - i) z).map f).set i (f x) = ((ns ++ [x]) ++ List.replicate (n - (i + 1)) z).map f := by
  rw [show n - i = (n - (i + 1)) + 1 by omega, List.replicate_succ, List.map_append, List.set_append_right _ _ (by simp; omega)]
  simp [h]
theorem QdAt.mod {w w' : World} {b : Nat} {r : Wire.Rd} {S : List Nat} (h : QdAt w b r) (hm : Mod S w w') (hn : b ∉ S) : QdAt w' b r := Blk.mod h hm hn

set_option maxHeartbeats 400000 in
theorem qend_any (b : Nat) (r : Wire.Rd) (w : World) (hR : QdAt w b r) :
    Calls Try.prog 41 #[.pointer (some ⟨b, 0, none⟩)] w fun e w' => e = .returned (.bool (decide (r = some []))) ∧ w = w' := by
  cases r with
  | none =>
    have h1 : w.cell? ⟨b, 1, none⟩ = some (.bool true) := by rw [hR.cell]; rfl
    go_enter Try.func41, Try.ntmps41
    go_wp2_with fail
    go_ret
    exact ⟨rfl, rfl⟩
  | some l =>
    have h0 : w.cell? ⟨b, 0, none⟩ = some (.string ⟨l.toArray⟩) := by rw [hR.cell]; rfl
    have h1 : w.cell? ⟨b, 1, none⟩ = some (.bool false) := by rw [hR.cell]; rfl
    go_enter Try.func41, Try.ntmps41
    go_wp2_with fail
    go_ret
    refine ⟨ret_bool ?_, rfl⟩
    cases l <;> simp
theorem results_msg_tmp {fn : Func} {p u : Tmp} (h : fn.results = #[.cell p 26, .tmp u]) (tmps : Array Value) {w : World} {b n c : Nat} {m : Msg} {a : Option Addr} (hp : tmps.getD p undef = .pointer (some ⟨b, 0, none⟩)) (v : Value) (hu : tmps.getD u undef = v)
    (hE : MsgAt w b m a n c) : (results fn tmps).run Try.prog w = .ok (.tuple #[msgV m a n c, v]) w := by
  rw [results_cell_tmp h, hp, hu]
  simp [asAddr, Result.andThen, run_load_msg hE]

/-- What stands behind k records that the document reads. -/
structure QRecTo (B M Q c : Nat) (m : Msg) (r0 : Wire.Rd) (k : Nat) (rs : List Rec) (v : Value) (r : Wire.Rd) (wr : World) : Prop where
  lt : M < B ∧ Q < B ∧ M ≠ Q ∧ B ≤ wr.heap.size
  msg : Blk wr M (msgCellsV m v) 26
  own : wr.ownsRow B 43 4 v k (recsCells rs)
  len : rs.length = k
  rd : QdAt wr Q r
  short : Wire.Rd.short r
  oks : ∀ x ∈ rs, x.ok
  all : refRecs c 501 0 r0 = (rs ++ (refRecs c (501 - k) k r).1, (refRecs c (501 - k) k r).2)
theorem QRecTo.start {M Q c : Nat} {m : Msg} {r0 : Wire.Rd} {w : World} (hM : Blk w M (msgCellsV m (.slice none 0 0)) 26) (hr : QdAt w Q r0) (hs : Wire.Rd.short r0) (hne : M ≠ Q) :
    QRecTo w.heap.size M Q c m r0 0 [] (.slice none 0 0) r0 w :=
  ⟨⟨hM.lt, hr.lt, hne, Nat.le_refl _⟩, hM, World.ownsRow_nil _ _ _ _, rfl, hr, hs, (by simp), by rw [Nat.sub_zero]; rfl⟩
theorem QRecTo.kept {B M Q c : Nat} {m : Msg} {r0 : Wire.Rd} {k : Nat} {rs : List Rec} {v : Value} {r : Wire.Rd} {wr w' : World} {S : List Nat} (h : QRecTo B M Q c m r0 k rs v r wr) (hm : Mod S wr w') (hS : ∀ s ∈ S, s = Q ∨ wr.heap.size ≤ s) :
    Blk w' M (msgCellsV m v) 26 ∧ w'.ownsRow B 43 4 v k (recsCells rs) := by
  obtain ⟨h1, h2, h3, h4⟩ := h.lt
  refine ⟨h.msg.mod hm (fun hin => ?_), ownsRow_mod h.own hm (fun s hs e => ?_)⟩
  · rcases hS M hin with e | e <;> omega
  · have := h.own.lt s e
    rcases hS s hs with e | e <;> omega
theorem QRecTo.recs {B M Q c : Nat} {m : Msg} {r0 : Wire.Rd} {k : Nat} {rs : List Rec} {v : Value} {r : Wire.Rd} {wr : World} (h : QRecTo B M Q c m r0 k rs v r wr) (hk : k ≤ 1000) :
    ∃ p n cp, v = .slice p n cp ∧ RecsAt wr p n cp rs ∧ ∀ g o, p = some ⟨g, o, none⟩ → B ≤ g := by
  have hl := h.len
  rcases ownsRow_shape h.own with ⟨rfl, rfl⟩ | ⟨g, cap, cur, rfl, hg, hh, hc, _⟩
  · exact ⟨none, 0, 0, rfl, ⟨hl, by omega, by omega, by omega⟩, fun g o e => by cases e⟩
  · refine ⟨_, k, cap, rfl, ⟨hl, hc, by omega, fun hn => ⟨g, 0, rfl, hh, fun i hi => ?_⟩⟩, fun g o e => by cases e; exact hg⟩
    have hc := h.own.cellAt
    have e0 := recs_get rs i hi 0 (by omega)
    have e1 := recs_get rs i hi 1 (by omega)
    have e2 := recs_get rs i hi 2 (by omega)
    have e3 := recs_get rs i hi 3 (by omega)
    refine ⟨?_, ?_, ?_, ?_⟩
    · rw [Nat.zero_add, hc _ (by omega)]; exact e0
    · rw [Nat.zero_add, hc _ (by omega)]; exact e1
    · rw [Nat.zero_add, hc _ (by omega)]; exact e2
    · rw [Nat.zero_add, hc _ (by omega)]; exact e3

set_option maxRecDepth 100000 in
set_option maxHeartbeats 4000000 in
theorem rDecode_any (s : List UInt8) (w : World) (hs : s.length ≤ 140737488355000) :
    Calls Try.prog 14 #[.string ⟨s.toArray⟩] w (DecodeEnds w (refM s)) := by
  go_enter Try.func14, Try.ntmps14
  go_wp2_with fail
  have hb0 := (Below.refl w.heap.size w).alloc (Nat.le_refl _) (.cells #[.int .i64 0, .int .u64 0, .int .u64 0, .int .u64 0, .int .u64 0, .int .u64 0, .string ⟨#[]⟩, .string ⟨#[]⟩, .bool false, .bool false, .string ⟨#[]⟩, .slice none 0 0, .int .i64 0] 26)
  have hE0 : MsgAt (w.alloc (.cells #[.int .i64 0, .int .u64 0, .int .u64 0, .int .u64 0, .int .u64 0, .int .u64 0, .string ⟨#[]⟩, .string ⟨#[]⟩, .bool false, .bool false, .string ⟨#[]⟩, .slice none 0 0, .int .i64 0] 26)) w.heap.size zeroMsg none 0 0 := Blk.new w (msgCells zeroMsg none 0 0) _
  generalize w.alloc (.cells #[.int .i64 0, .int .u64 0, .int .u64 0, .int .u64 0, .int .u64 0, .int .u64 0, .string ⟨#[]⟩, .string ⟨#[]⟩, .bool false, .bool false, .string ⟨#[]⟩, .slice none 0 0, .int .i64 0] 26) = w0 at *
  have hsl := open_len s
  obtain ⟨t, is, ho⟩ : ∃ t is, openI s = (t, is) := ⟨_, _, rfl⟩
  rw [ho] at hsl
  simp only at hsl
  have HO := Lib.hid ho
  clear ho
  refine (refOpen_any s w0 (by unfold maxLen; omega)).mono ?_
  rw [HO.out]
  rintro e w1 ⟨rfl, hb1⟩
  have hE1 : MsgAt w1 w.heap.size zeroMsg none 0 0 := Blk.on hE0 hb1
  have hbel1 := hb0.on hb1
  clear hE0 hb0 hb1
  have hst : Wire.Rd.short (some t) := fun l hl => by cases hl; omega
  go_upto_region 4 with fail
  have hQ2 : QdAt ((w1.alloc (.cells #[.string ⟨t.toArray⟩, .bool false] 69)).alloc (.cells #[.int .u64 0, .int .u64 0, .int .u64 0, .int .u64 0, .int .u64 0, .int .u64 0] 51)) w1.heap.size (some t) := Blk.alloc (Blk.new w1 (rdV (some t)) _) _
  have hA2 : Blk ((w1.alloc (.cells #[.string ⟨t.toArray⟩, .bool false] 69)).alloc (.cells #[.int .u64 0, .int .u64 0, .int .u64 0, .int .u64 0, .int .u64 0, .int .u64 0] 51)) (w1.heap.size + 1) (([] ++ List.replicate (6 - 0) 0).map fun n : Nat => Value.int .u64 (n : Int)) 51 := by
    have h := Blk.new (w1.alloc (.cells #[.string ⟨t.toArray⟩, .bool false] 69)) [.int .u64 0, .int .u64 0, .int .u64 0, .int .u64 0, .int .u64 0, .int .u64 0] 51
    rw [show (w1.alloc (.cells #[.string ⟨t.toArray⟩, .bool false] 69)).heap.size = w1.heap.size + 1 by simp] at h
    exact h
  have hb2 := ((Below.refl w1.heap.size w1).alloc (Nat.le_refl _) (.cells #[.string ⟨t.toArray⟩, .bool false] 69)).alloc (by simp) (.cells #[.int .u64 0, .int .u64 0, .int .u64 0, .int .u64 0, .int .u64 0, .int .u64 0] 51)
  have hEQ : w.heap.size < w1.heap.size := hE1.lt
  generalize (w1.alloc (.cells #[.string ⟨t.toArray⟩, .bool false] 69)).alloc (.cells #[.int .u64 0, .int .u64 0, .int .u64 0, .int .u64 0, .int .u64 0, .int .u64 0] 51) = w2 at *
  have hE2 : MsgAt w2 w.heap.size zeroMsg none 0 0 := Blk.on hE1 hb2
  have hbel2 := hbel1.on hb2
  have hAQ : w1.heap.size < w1.heap.size + 1 := by omega
  clear hE1 hbel1 hb2
  generalize w1.heap.size + 1 = A at *
  generalize w1.heap.size = Q at *
  go_wp2_with fail
  go_loopw [8] (fun s8 wr => ∃ i : Nat, i ≤ 6 ∧ s8 = .int .i64 i ∧ QdAt wr Q (readNums i (some t)).2 ∧ Blk wr A (((readNums i (some t)).1 ++ List.replicate (6 - i) 0).map fun n : Nat => Value.int .u64 (n : Int)) 51 ∧ Mod [Q, A] w2 wr) (fun s8 _ => 6 - (intOf s8).toNat)
  case atStart => exact ⟨0, by omega, rfl, hQ2, hA2, Mod.refl _ _⟩
  case round =>
    obtain ⟨i, hi, rfl, hQr, hAr, hmr⟩ := hrel
    have hsi := readNums_short i (some t) hst
    have hli := readNums_len i (some t)
    by_cases hlt : i < 6
    · have hnx := set_next (fun n : Nat => Value.int .u64 (n : Int)) (readNums i (some t)).1 0 (Wire.rNum (readNums i (some t)).2).1 i 6 hli hlt
      have HNX := Lib.hid hnx
      have HRN := Lib.hid (show readNums (i + 1) (some t) = ((readNums i (some t)).1 ++ [(Wire.rNum (readNums i (some t)).2).1], (Wire.rNum (readNums i (some t)).2).2) from rfl)
      have hli2 : i ≤ (readNums i (some t)).1.length := by omega
      clear hnx hli
      generalize readNums i (some t) = pr at *
      obtain ⟨ns, r⟩ := pr
      simp only at *
      go_wp2_with fail
      refine (qNum_any Q r wr hQr hsi).mono ?_
      rintro e w3 ⟨rfl, hQ3, hm3⟩
      have hA3 := hAr.mod hm3 (by simp; omega)
      have hcell : ∃ u, w3.cell? ⟨A, i, none⟩ = some u := by
        rw [hA3.cell]
        exact ⟨_, List.getElem?_eq_getElem (by simp; omega)⟩
      obtain ⟨u, hu⟩ := hcell
      have hfr := hA3.free i
      have hA4 := hA3.set i (.int .u64 ((Wire.rNum r).1 : Int))
      have HA4 := Lib.hid hA4
      clear hAr hA3 hA4
      go_wp2_with fail
      have hm4 := (hmr.trans (hm3.mono (S' := [Q, A]) (by simp))).setCell ⟨A, i, none⟩ (.int .u64 ((Wire.rNum r).1 : Int)) (.inl (by simp))
      have hQ4 : QdAt (w3.setCell ⟨A, i, none⟩ (.int .u64 ((Wire.rNum r).1 : Int))) Q (Wire.rNum r).2 := Blk.other hQ3 _ _ (by simp; omega)
      go_roundw
      case rel => exact ⟨i + 1, by omega, by go_num, by rw [HRN.out]; exact hQ4, by rw [HRN.out, ← HNX.out]; exact HA4.out, hm4⟩
      case measure => simp [intOf]; omega
    · obtain rfl : i = 6 := by omega
      obtain ⟨k0, r0, h0⟩ : ∃ x y, Wire.rNum (some t) = (x, y) := ⟨_, _, rfl⟩
      have s0 := rNum_short hst
      rw [h0] at s0
      simp only at s0

      obtain ⟨te, r1, h1⟩ : ∃ x y, Wire.rNum r0 = (x, y) := ⟨_, _, rfl⟩
      have s1 := rNum_short s0
      have l1 := Wire.rNum_lt r0
      rw [h1] at s1 l1
      simp only at s1 l1
      obtain ⟨di, r2, h2⟩ : ∃ x y, Wire.rNum r1 = (x, y) := ⟨_, _, rfl⟩
      have s2 := rNum_short s1
      have l2 := Wire.rNum_lt r1
      rw [h2] at s2 l2
      simp only at s2 l2
      obtain ⟨id, r3, h3⟩ : ∃ x y, Wire.rNum r2 = (x, y) := ⟨_, _, rfl⟩
      have s3 := rNum_short s2
      have l3 := Wire.rNum_lt r2
      rw [h3] at s3 l3
      simp only at s3 l3
      obtain ⟨lsn, r4, h4⟩ : ∃ x y, Wire.rNum r3 = (x, y) := ⟨_, _, rfl⟩
      have s4 := rNum_short s3
      have l4 := Wire.rNum_lt r3
      rw [h4] at s4 l4
      simp only at s4 l4
      obtain ⟨low, r5, h5⟩ : ∃ x y, Wire.rNum r4 = (x, y) := ⟨_, _, rfl⟩
      have s5 := rNum_short s4
      have l5 := Wire.rNum_lt r4
      rw [h5] at s5 l5
      simp only at s5 l5
      obtain ⟨key, r6, h6⟩ : ∃ x y, Wire.rText r5 = (x, y) := ⟨_, _, rfl⟩
      have s6 := rText_short s5
      have l6 := rText_len1 s5
      rw [h6] at s6 l6
      simp only at s6 l6
      obtain ⟨hi, r7, h7⟩ : ∃ x y, Wire.rText r6 = (x, y) := ⟨_, _, rfl⟩
      have s7 := rText_short s6
      have l7 := rText_len1 s6
      rw [h7] at s7 l7
      simp only at s7 l7
      obtain ⟨n8, r8, h8⟩ : ∃ x y, Wire.rNum r7 = (x, y) := ⟨_, _, rfl⟩
      have s8 := rNum_short s7
      rw [h8] at s8
      simp only at s8
      obtain ⟨n9, r9, h9⟩ : ∃ x y, Wire.rNum r8 = (x, y) := ⟨_, _, rfl⟩
      have s9 := rNum_short s8
      rw [h9] at s9
      simp only at s9
      obtain ⟨val, r10, h10⟩ : ∃ x y, Wire.rText r9 = (x, y) := ⟨_, _, rfl⟩
      have s10 := rText_short s9
      have l10 := rText_len1 s9
      rw [h10] at s10 l10
      simp only at s10 l10
      obtain ⟨c, r11, h11⟩ : ∃ x y, Wire.rNum r10 = (x, y) := ⟨_, _, rfl⟩
      have s11 := rNum_short s10
      have l11 := Wire.rNum_lt r10
      rw [h11] at s11 l11
      simp only at s11 l11
      obtain ⟨kk, hkk⟩ : ∃ kk, min k0 100 = kk := ⟨_, rfl⟩
      have hk100 : kk ≤ 100 := by omega
      have HB := Lib.hid (show ∀ rs rq er rz, refRecs c 501 0 r11 = (rs, rq) → Wire.rNum rq = (er, rz) → refM s = if is = true ∧ rz = some [] ∧ checkM ⟨(kk : Nat), te, di, id, lsn, low, key, hi, n8 == 1, n9 == 1, val, rs, (min er 100 : Nat)⟩ = 0 ∧ encM ⟨(kk : Nat), te, di, id, lsn, low, key, hi, n8 == 1, n9 == 1, val, rs, (min er 100 : Nat)⟩ = s
          then some ⟨(kk : Nat), te, di, id, lsn, low, key, hi, n8 == 1, n9 == 1, val, rs, (min er 100 : Nat)⟩ else none by
        intro rs rq er rz hq hr
        have hbd : refBody t = (⟨(kk : Nat), te, di, id, lsn, low, key, hi, n8 == 1, n9 == 1, val, rs, (min er 100 : Nat)⟩, decide (rz = some [])) := by
          rw [refBody_tail t h0 h1 h2 h3 h4 h5 h6 h7]
          unfold refTail
          simp only [h8, h9, h10, h11, hq, hr, hkk]
        unfold refM
        rw [HO.out]
        simp only [hbd, decide_eq_true_eq])
      have hrn : readNums 6 (some t) = ([k0, te, di, id, lsn, low], r5) := by simp [readNums, h0, h1, h2, h3, h4, h5]
      rw [hrn] at hQr hAr
      have hA : Blk wr A [.int .u64 k0, .int .u64 te, .int .u64 di, .int .u64 id, .int .u64 lsn, .int .u64 low] 51 := by simpa using hAr
      have a0 : wr.cell? ⟨A, 0, none⟩ = some (.int .u64 k0) := by rw [hA.cell]; rfl
      have a1 : wr.cell? ⟨A, 1, none⟩ = some (.int .u64 te) := by rw [hA.cell]; rfl
      have a2 : wr.cell? ⟨A, 2, none⟩ = some (.int .u64 di) := by rw [hA.cell]; rfl
      have a3 : wr.cell? ⟨A, 3, none⟩ = some (.int .u64 id) := by rw [hA.cell]; rfl
      have a4 : wr.cell? ⟨A, 4, none⟩ = some (.int .u64 lsn) := by rw [hA.cell]; rfl
      have a5 : wr.cell? ⟨A, 5, none⟩ = some (.int .u64 low) := by rw [hA.cell]; rfl
      have hmin : ∀ w', (Builtin.min_ #[22, 22] 22 #[.int .u64 k0, .int .u64 100]).run Try.prog w' = .ok (.int .u64 kk) w' := by
        intro w'
        rw [run_min_int2, show (if (100 : Int) < k0 then (100 : Int) else k0) = kk from by split <;> omega]
      have hwk : IntKind.i64.wrap (kk : Int) = (kk : Int) := IntWalk.i64_in _ (by omega)
      have hEr : MsgAt wr w.heap.size zeroMsg none 0 0 := Blk.mod hE2 hmr (by simp; omega)
      have hbr : Below w.heap.size w wr := Mod.fresh hbel2 hmr (by simp; omega)
      simp only at hQr
      have H6 := Lib.hid h6
      have H7 := Lib.hid h7
      have H8 := Lib.hid h8
      have H9 := Lib.hid h9
      have H10 := Lib.hid h10
      have H11 := Lib.hid h11
      clear h0 h1 h2 h3 h4 h5 h6 h7 h8 h9 h10 h11 hrn hAr hkk hsi hli hQ2 hA2 hE2 hbel2 hmr hA hlt s0 s1 s2 s3 s4 hst
      go_wp2_with fail
      clear a0 a1 a2 a3 a4 a5 hmin hwk
      have hM0 : Blk (wr.alloc (.cells #[.int .i64 kk, .int .u64 te, .int .u64 di, .int .u64 id, .int .u64 lsn, .int .u64 low, .string ⟨#[]⟩, .string ⟨#[]⟩, .bool false, .bool false, .string ⟨#[]⟩, .slice none 0 0, .int .i64 0] 26)) wr.heap.size (msgCellsV ⟨kk, te, di, id, lsn, low, [], [], false, false, [], [], 0⟩ (.slice none 0 0)) 26 := Blk.new wr (msgCellsV ⟨kk, te, di, id, lsn, low, [], [], false, false, [], [], 0⟩ (.slice none 0 0)) _
      have hbM := (Below.refl wr.heap.size wr).alloc (Nat.le_refl _) (.cells #[.int .i64 kk, .int .u64 te, .int .u64 di, .int .u64 id, .int .u64 lsn, .int .u64 low, .string ⟨#[]⟩, .string ⟨#[]⟩, .bool false, .bool false, .string ⟨#[]⟩, .slice none 0 0, .int .i64 0] 26)
      generalize wr.alloc (.cells #[.int .i64 kk, .int .u64 te, .int .u64 di, .int .u64 id, .int .u64 lsn, .int .u64 low, .string ⟨#[]⟩, .string ⟨#[]⟩, .bool false, .bool false, .string ⟨#[]⟩, .slice none 0 0, .int .i64 0] 26) = v0 at *
      have hE0 : MsgAt v0 w.heap.size zeroMsg none 0 0 := Blk.on hEr hbM
      have hQ0 : QdAt v0 Q r5 := Blk.on hQr hbM
      have hb0 := hbr.on hbM
      have hMQ : wr.heap.size ≠ Q := by have := hQr.lt; omega
      have hME : wr.heap.size ≠ w.heap.size := by have := hEr.lt; omega
      have hMw : w.heap.size ≤ wr.heap.size := hbr.size
      clear hEr hbr hQr hbM
      generalize wr.heap.size = M at *
      refine (qText_any Q r5 v0 hQ0 s5).mono ?_
      rw [H6.out]
      rintro e u0 ⟨rfl, hQx, hmx⟩
      have hMx := hM0.mod hmx (by simpa using hMQ)
      have hEx : MsgAt u0 w.heap.size zeroMsg none 0 0 := Blk.mod hE0 hmx (by simp; omega)
      have hbx : Below w.heap.size w u0 := Mod.fresh hb0 hmx (by simp; omega)
      have zj := hMx.free 6
      have yj : u0.cell? ⟨M, 6, none⟩ = some (.string ⟨#[]⟩) := by rw [hMx.cell]; rfl
      clear hM0 hE0 hb0 hQ0 hmx
      go_wp2_with fail
      clear zj yj
      have hM1 : Blk (u0.setCell ⟨M, 6, none⟩ (.string ⟨key.toArray⟩)) M (msgCellsV ⟨kk, te, di, id, lsn, low, key, [], false, false, [], [], 0⟩ (.slice none 0 0)) 26 := hMx.set 6 _
      have hE1 : MsgAt (u0.setCell ⟨M, 6, none⟩ (.string ⟨key.toArray⟩)) w.heap.size zeroMsg none 0 0 := Blk.other hEx _ _ (Ne.symm hME)
      have hQ1 : QdAt (u0.setCell ⟨M, 6, none⟩ (.string ⟨key.toArray⟩)) Q r6 := Blk.other hQx _ _ (Ne.symm hMQ)
      have hb1 : Below w.heap.size w (u0.setCell ⟨M, 6, none⟩ (.string ⟨key.toArray⟩)) := hbx.setCell hMw _
      generalize u0.setCell ⟨M, 6, none⟩ (.string ⟨key.toArray⟩) = v1 at *
      clear hMx hEx hQx hbx
      refine (qText_any Q r6 v1 hQ1 s6).mono ?_
      rw [H7.out]
      rintro e u1 ⟨rfl, hQx, hmx⟩
      have hMx := hM1.mod hmx (by simpa using hMQ)
      have hEx : MsgAt u1 w.heap.size zeroMsg none 0 0 := Blk.mod hE1 hmx (by simp; omega)
      have hbx : Below w.heap.size w u1 := Mod.fresh hb1 hmx (by simp; omega)
      have zj := hMx.free 7
      have yj : u1.cell? ⟨M, 7, none⟩ = some (.string ⟨#[]⟩) := by rw [hMx.cell]; rfl
      clear hM1 hE1 hb1 hQ1 hmx
      go_wp2_with fail
      clear zj yj
      have hM2 : Blk (u1.setCell ⟨M, 7, none⟩ (.string ⟨hi.toArray⟩)) M (msgCellsV ⟨kk, te, di, id, lsn, low, key, hi, false, false, [], [], 0⟩ (.slice none 0 0)) 26 := hMx.set 7 _
      have hE2 : MsgAt (u1.setCell ⟨M, 7, none⟩ (.string ⟨hi.toArray⟩)) w.heap.size zeroMsg none 0 0 := Blk.other hEx _ _ (Ne.symm hME)
      have hQ2 : QdAt (u1.setCell ⟨M, 7, none⟩ (.string ⟨hi.toArray⟩)) Q r7 := Blk.other hQx _ _ (Ne.symm hMQ)
      have hb2 : Below w.heap.size w (u1.setCell ⟨M, 7, none⟩ (.string ⟨hi.toArray⟩)) := hbx.setCell hMw _
      generalize u1.setCell ⟨M, 7, none⟩ (.string ⟨hi.toArray⟩) = v2 at *
      clear hMx hEx hQx hbx
      refine (qNum_any Q r7 v2 hQ2 s7).mono ?_
      rw [H8.out]
      rintro e u2 ⟨rfl, hQx, hmx⟩
      have hMx := hM2.mod hmx (by simpa using hMQ)
      have hEx : MsgAt u2 w.heap.size zeroMsg none 0 0 := Blk.mod hE2 hmx (by simp; omega)
      have hbx : Below w.heap.size w u2 := Mod.fresh hb2 hmx (by simp; omega)
      have zj := hMx.free 8
      have yj : u2.cell? ⟨M, 8, none⟩ = some (.bool false) := by rw [hMx.cell]; rfl
      have hdl : ((n8 : Int) == 1) = (n8 == 1) := by rw [Bool.eq_iff_iff]; simp; omega
      clear hM2 hE2 hb2 hQ2 hmx
      go_wp2_with fail
      clear zj yj hdl
      have hM3 : Blk (u2.setCell ⟨M, 8, none⟩ (.bool (n8 == 1))) M (msgCellsV ⟨kk, te, di, id, lsn, low, key, hi, n8 == 1, false, [], [], 0⟩ (.slice none 0 0)) 26 := hMx.set 8 _
      have hE3 : MsgAt (u2.setCell ⟨M, 8, none⟩ (.bool (n8 == 1))) w.heap.size zeroMsg none 0 0 := Blk.other hEx _ _ (Ne.symm hME)
      have hQ3 : QdAt (u2.setCell ⟨M, 8, none⟩ (.bool (n8 == 1))) Q r8 := Blk.other hQx _ _ (Ne.symm hMQ)
      have hb3 : Below w.heap.size w (u2.setCell ⟨M, 8, none⟩ (.bool (n8 == 1))) := hbx.setCell hMw _
      generalize u2.setCell ⟨M, 8, none⟩ (.bool (n8 == 1)) = v3 at *
      clear hMx hEx hQx hbx
      refine (qNum_any Q r8 v3 hQ3 s8).mono ?_
      rw [H9.out]
      rintro e u3 ⟨rfl, hQx, hmx⟩
      have hMx := hM3.mod hmx (by simpa using hMQ)
      have hEx : MsgAt u3 w.heap.size zeroMsg none 0 0 := Blk.mod hE3 hmx (by simp; omega)
      have hbx : Below w.heap.size w u3 := Mod.fresh hb3 hmx (by simp; omega)
      have zj := hMx.free 9
      have yj : u3.cell? ⟨M, 9, none⟩ = some (.bool false) := by rw [hMx.cell]; rfl
      have hdl : ((n9 : Int) == 1) = (n9 == 1) := by rw [Bool.eq_iff_iff]; simp; omega
      clear hM3 hE3 hb3 hQ3 hmx
      go_wp2_with fail
      clear zj yj hdl
      have hM4 : Blk (u3.setCell ⟨M, 9, none⟩ (.bool (n9 == 1))) M (msgCellsV ⟨kk, te, di, id, lsn, low, key, hi, n8 == 1, n9 == 1, [], [], 0⟩ (.slice none 0 0)) 26 := hMx.set 9 _
      have hE4 : MsgAt (u3.setCell ⟨M, 9, none⟩ (.bool (n9 == 1))) w.heap.size zeroMsg none 0 0 := Blk.other hEx _ _ (Ne.symm hME)
      have hQ4 : QdAt (u3.setCell ⟨M, 9, none⟩ (.bool (n9 == 1))) Q r9 := Blk.other hQx _ _ (Ne.symm hMQ)
      have hb4 : Below w.heap.size w (u3.setCell ⟨M, 9, none⟩ (.bool (n9 == 1))) := hbx.setCell hMw _
      generalize u3.setCell ⟨M, 9, none⟩ (.bool (n9 == 1)) = v4 at *
      clear hMx hEx hQx hbx
      refine (qText_any Q r9 v4 hQ4 s9).mono ?_
      rw [H10.out]
      rintro e u4 ⟨rfl, hQx, hmx⟩
      have hMx := hM4.mod hmx (by simpa using hMQ)
      have hEx : MsgAt u4 w.heap.size zeroMsg none 0 0 := Blk.mod hE4 hmx (by simp; omega)
      have hbx : Below w.heap.size w u4 := Mod.fresh hb4 hmx (by simp; omega)
      have zj := hMx.free 10
      have yj : u4.cell? ⟨M, 10, none⟩ = some (.string ⟨#[]⟩) := by rw [hMx.cell]; rfl
      clear hM4 hE4 hb4 hQ4 hmx
      go_wp2_with fail
      clear zj yj
      have hM5 : Blk (u4.setCell ⟨M, 10, none⟩ (.string ⟨val.toArray⟩)) M (msgCellsV ⟨kk, te, di, id, lsn, low, key, hi, n8 == 1, n9 == 1, val, [], 0⟩ (.slice none 0 0)) 26 := hMx.set 10 _
      have hE5 : MsgAt (u4.setCell ⟨M, 10, none⟩ (.string ⟨val.toArray⟩)) w.heap.size zeroMsg none 0 0 := Blk.other hEx _ _ (Ne.symm hME)
      have hQ5 : QdAt (u4.setCell ⟨M, 10, none⟩ (.string ⟨val.toArray⟩)) Q r10 := Blk.other hQx _ _ (Ne.symm hMQ)
      have hb5 : Below w.heap.size w (u4.setCell ⟨M, 10, none⟩ (.string ⟨val.toArray⟩)) := hbx.setCell hMw _
      generalize u4.setCell ⟨M, 10, none⟩ (.string ⟨val.toArray⟩) = v5 at *
      clear hMx hEx hQx hbx
      refine (qNum_any Q r10 v5 hQ5 s10).mono ?_
      rw [H11.out]
      rintro e v6 ⟨rfl, hQ6, hmx⟩
      have hM6 := hM5.mod hmx (by simpa using hMQ)
      have hE6 : MsgAt v6 w.heap.size zeroMsg none 0 0 := Blk.mod hE5 hmx (by simp; omega)
      have hb6 : Below w.heap.size w v6 := Mod.fresh hb5 hmx (by simp; omega)
      clear hM5 hE5 hQ5 hb5 hmx H6 H7 H8 H9 H10 H11
      have hto0 := QRecTo.start (c := c) hM6 hQ6 s11 hMQ
      have hv6 : w.heap.size ≤ v6.heap.size := hb6.size
      go_upto_block 2 with fail
      go_cut [] (fun wx => ∃ (k : Nat) (rs : List Rec) (v : Value) (r : Wire.Rd), k ≤ 501 ∧ QRecTo v6.heap.size M Q c ⟨kk, te, di, id, lsn, low, key, hi, n8 == 1, n9 == 1, val, [], 0⟩ r11 k rs v r wx ∧ refRecs c (501 - k) k r = ([], r) ∧ MsgAt wx w.heap.size zeroMsg none 0 0 ∧ Below w.heap.size w wx)
      case first =>
        go_wp2_with fail
        go_loopw [11, 12] (fun s11 _ wr => ∃ (k : Nat) (rs : List Rec) (v : Value) (r : Wire.Rd), k ≤ 501 ∧ s11 = .int .u64 k ∧ QRecTo v6.heap.size M Q c ⟨kk, te, di, id, lsn, low, key, hi, n8 == 1, n9 == 1, val, [], 0⟩ r11 k rs v r wr ∧
          MsgAt wr w.heap.size zeroMsg none 0 0 ∧ Below w.heap.size w wr) (fun s11 _ _ => 501 - (intOf s11).toNat)
        case atStart => exact ⟨0, [], .slice none 0 0, r11, by omega, rfl, hto0, hE6, hb6⟩
        case round =>
          obtain ⟨k, rs, v, r, hk501, rfl, hto, hEr, hbw⟩ := hrel
          have hrd := hto.rd
          have hsr := hto.short
          have hlt4 := hto.lt
          by_cases hgo : k < c ∧ k ≤ 500 ∧ r.isSome = true
          · obtain ⟨g1, g2, g3⟩ := hgo
            have hok := qok_any Q r wr hrd
            rw [g3] at hok
            have HOK := Lib.hid hok
            obtain ⟨ka, q1, ha⟩ : ∃ x y, Wire.rText r = (x, y) := ⟨_, _, rfl⟩
            have sq1 := rText_short hsr
            have la := rText_len1 hsr
            rw [ha] at sq1 la
            simp only at sq1 la
            obtain ⟨lb, q2, hb⟩ : ∃ x y, Wire.rNum q1 = (x, y) := ⟨_, _, rfl⟩
            have sq2 := rNum_short sq1
            have lb2 := Wire.rNum_lt q1
            rw [hb] at sq2 lb2
            simp only at sq2 lb2
            obtain ⟨vc, q3, hc⟩ : ∃ x y, Wire.rText q2 = (x, y) := ⟨_, _, rfl⟩
            have sq3 := rText_short sq2
            have lc := rText_len1 sq2
            rw [hc] at sq3 lc
            simp only at sq3 lc
            have HRd := Lib.hid (show refRecs c (501 - k) k r = (⟨ka, lb, false, vc⟩ :: (refRecs c (501 - (k + 1)) (k + 1) q3).1, (refRecs c (501 - (k + 1)) (k + 1) q3).2) by
              rw [show 501 - k = (501 - (k + 1)) + 1 by omega, refRecs, if_pos ⟨g1, g2, g3⟩]; simp only [ha, hb, hc])
            have HA := Lib.hid ha
            have HBn := Lib.hid hb
            have HCt := Lib.hid hc
            clear ha hb hc g3 hok
            go_wp2_with fail
            refine HOK.out.mono ?_
            rintro e w9 ⟨rfl, rfl⟩
            go_wp2_with fail
            refine (qText_any Q r wr hrd hsr).mono ?_
            rw [HA.out]
            rintro e wa ⟨rfl, hQa, hma⟩
            go_wp2_with fail
            have hXb : Blk (wa.alloc (.cells #[.string ⟨ka.toArray⟩, .int .u64 0, .bool false, .string ⟨#[]⟩] 43)) wa.heap.size [.string ⟨ka.toArray⟩, .int .u64 0, .bool false, .string ⟨#[]⟩] 43 := Blk.new wa [.string ⟨ka.toArray⟩, .int .u64 0, .bool false, .string ⟨#[]⟩] _
            have hQb : QdAt (wa.alloc (.cells #[.string ⟨ka.toArray⟩, .int .u64 0, .bool false, .string ⟨#[]⟩] 43)) Q q1 := Blk.alloc hQa _
            have hmb : Mod [Q] wr (wa.alloc (.cells #[.string ⟨ka.toArray⟩, .int .u64 0, .bool false, .string ⟨#[]⟩] 43)) := hma.alloc _
            have hXr : wr.heap.size ≤ wa.heap.size := hma.size
            generalize wa.alloc (.cells #[.string ⟨ka.toArray⟩, .int .u64 0, .bool false, .string ⟨#[]⟩] 43) = wb at *
            clear hQa hma
            generalize wa.heap.size = X at *
            have hXQ : X ≠ Q := by omega
            have hXM : X ≠ M := by omega
            refine (qNum_any Q q1 wb hQb sq1).mono ?_
            rw [HBn.out]
            rintro e wc ⟨rfl, hQc, hmc⟩
            have hXc := hXb.mod hmc (by simpa using hXQ)
            have hmbc := hmb.trans hmc
            have z1 := hXc.free 1
            have y1 : wc.cell? ⟨X, 1, none⟩ = some (.int .u64 0) := by rw [hXc.cell]; rfl
            clear hXb hQb hmb hmc
            go_wp2_with fail
            clear z1 y1
            have hXd : Blk (wc.setCell ⟨X, 1, none⟩ (.int .u64 lb)) X [.string ⟨ka.toArray⟩, .int .u64 lb, .bool false, .string ⟨#[]⟩] 43 := hXc.set 1 _
            have hQd : QdAt (wc.setCell ⟨X, 1, none⟩ (.int .u64 lb)) Q q2 := Blk.other hQc _ _ (Ne.symm hXQ)
            have hmd : Mod [Q, X] wr (wc.setCell ⟨X, 1, none⟩ (.int .u64 lb)) := (hmbc.mono (S' := [Q, X]) (by simp)).setCell _ _ (.inl (by simp))
            generalize wc.setCell ⟨X, 1, none⟩ (.int .u64 lb) = wd at *
            clear hXc hQc hmbc
            refine (qText_any Q q2 wd hQd sq2).mono ?_
            rw [HCt.out]
            rintro e we ⟨rfl, hQe, hme⟩
            have hXe := hXd.mod hme (by simpa using hXQ)
            have hmde := hmd.trans (hme.mono (S' := [Q, X]) (by simp))
            have z3 := hXe.free 3
            have y3 : we.cell? ⟨X, 3, none⟩ = some (.string ⟨#[]⟩) := by rw [hXe.cell]; rfl
            clear hXd hQd hmd hme
            go_upto_region 21 with fail
            clear z3 y3
            have hXf : Blk (we.setCell ⟨X, 3, none⟩ (.string ⟨vc.toArray⟩)) X [.string ⟨ka.toArray⟩, .int .u64 lb, .bool false, .string ⟨vc.toArray⟩] 43 := hXe.set 3 _
            have hQf : QdAt (we.setCell ⟨X, 3, none⟩ (.string ⟨vc.toArray⟩)) Q q3 := Blk.other hQe _ _ (Ne.symm hXQ)
            have hmf : Mod [Q, X] wr (we.setCell ⟨X, 3, none⟩ (.string ⟨vc.toArray⟩)) := hmde.setCell _ _ (.inl (by simp))
            generalize we.setCell ⟨X, 3, none⟩ (.string ⟨vc.toArray⟩) = wf at *
            clear hXe hQe hmde
            obtain ⟨hMf, hownf⟩ := hto.kept hmf (by simp; omega)
            obtain ⟨v', wg, hrun, hown', hmg⟩ := append_rec hownf (by omega) (by have := hmf.size; omega) ⟨ka, lb, false, vc⟩ 23 #[.string ⟨ka.toArray⟩, .int .u64 lb, .bool false, .string ⟨vc.toArray⟩] rfl wf.heap.size rfl
            obtain ⟨g, cap, rfl⟩ := ownsRow_succ hown'
            have hvQ : ∀ y ∈ v.ownBlock.toList, v6.heap.size ≤ y := by
              intro y hy
              cases h : v.ownBlock with
              | none => rw [h] at hy; simp at hy
              | some z =>
                rw [h] at hy
                simp only [Option.toList_some, List.mem_singleton] at hy
                subst hy
                have := hto.own.lt _ h
                omega
            have hMg : Blk wg M (msgCellsV ⟨kk, te, di, id, lsn, low, key, hi, n8 == 1, n9 == 1, val, [], 0⟩ v) 26 := hMf.mod hmg (fun hin => by have := hvQ _ hin; omega)
            have x0 : wf.cell? ⟨X, 0, none⟩ = some (.string ⟨ka.toArray⟩) := by rw [hXf.cell]; rfl
            have x1 : wf.cell? ⟨X, 1, none⟩ = some (.int .u64 lb) := by rw [hXf.cell]; rfl
            have x2 : wf.cell? ⟨X, 2, none⟩ = some (.bool false) := by rw [hXf.cell]; rfl
            have x3 : wf.cell? ⟨X, 3, none⟩ = some (.string ⟨vc.toArray⟩) := by rw [hXf.cell]; rfl
            have m11 : wf.cell? ⟨M, 11, none⟩ = some v := by rw [hMf.cell]; rfl
            have f11 := hMg.free 11
            have g11 : wg.cell? ⟨M, 11, none⟩ = some v := by rw [hMg.cell]; rfl
            go_wp2_with (at_builtin; (with_reducible refine wpList_append_run rfl _ _ _ rfl _ _ _ _ ?_ ?_ hrun ?_); rfl; rfl)
            have hsz1 := hmf.size
            have hsz2 := hmg.size
            have hEg : MsgAt wg w.heap.size zeroMsg none 0 0 := Blk.mod (Blk.mod hEr hmf (by simp; omega)) hmg (fun hin => by have := hvQ _ hin; omega)
            have hbg : Below w.heap.size w (wg.setCell ⟨M, 11, none⟩ (.slice (some ⟨g, 0, none⟩) (k + 1) cap)) := (Mod.fresh (Mod.fresh hbw hmf (by simp; omega)) hmg (fun y hy => by have := hvQ _ hy; omega)).setCell hMw _
            have hQg : QdAt wg Q q3 := Blk.mod hQf hmg (fun hin => by have := hvQ _ hin; omega)
            have hwk1 : IntKind.u64.wrap ((k : Int) + 1) = (k : Int) + 1 := by rw [IntKind.wrap_u64]; omega
            refine ⟨⟨k + 1, rs ++ [⟨ka, lb, false, vc⟩], _, q3, by omega, by simp, ⟨⟨hlt4.1, hlt4.2.1, hlt4.2.2.1, by simp; omega⟩, hMg.set 11 _, ownsRow_setCell_below hown' hlt4.1 _, by simp [hto.len], Blk.other hQg _ _ (Ne.symm hMQ), sq3, ?_, ?_⟩, Blk.other hEg _ _ (Ne.symm hME), hbg⟩, by simp [intOf]; omega⟩
            · intro y hy
              rw [List.mem_append, List.mem_singleton] at hy
              rcases hy with hy | rfl
              · exact hto.oks y hy
              · exact ⟨Nat.le_trans la (by decide), Nat.le_trans lc (by decide), lb2⟩
            · rw [hto.all, HRd.out]; simp
          · have hout : refRecs c (501 - k) k r = ([], r) := by
              cases hf : 501 - k with
              | zero => rfl
              | succ f => rw [refRecs, if_neg hgo]
            have hwhy : (k < c ∧ k ≤ 500 ∧ r.isSome = false) ∨ (k < c ∧ ¬ k ≤ 500) ∨ ¬ k < c := by
              by_cases h1 : k < c
              · by_cases h2 : k ≤ 500
                · cases hr : r.isSome with
                  | false => exact .inl ⟨h1, h2, rfl⟩
                  | true => exact absurd ⟨h1, h2, hr⟩ hgo
                · exact .inr (.inl ⟨h1, h2⟩)
              · exact .inr (.inr h1)
            have HO1 := Lib.hid hout
            clear hgo hout
            rcases hwhy with ⟨h1, h2, hr0⟩ | ⟨h1, h2⟩ | h1
            · have hok1 := qok_any Q r wr hrd
              rw [hr0] at hok1
              have HOK := Lib.hid hok1
              clear hok1 hr0
              go_wp2_with fail
              refine HOK.out.mono ?_
              rintro e w9 ⟨rfl, rfl⟩
              go_wp2_with fail
              go_meet
              exact ⟨k, rs, v, r, hk501, hto, HO1.out, hEr, hbw⟩
            · go_wp2_with fail
              go_meet
              exact ⟨k, rs, v, r, hk501, hto, HO1.out, hEr, hbw⟩
            · go_wp2_with fail
              go_meet
              exact ⟨k, rs, v, r, hk501, hto, HO1.out, hEr, hbw⟩
      case rest =>
        obtain ⟨k, rs, v, r, hk501, hto, hout, hEr, hbw⟩ := hcut
        have hrd := hto.rd
        have hsr := hto.short
        have hlt4 := hto.lt
        clear hto0 hM6 hE6 hQ6 hb6
        have hall := hto.all
        rw [hout, List.append_nil] at hall
        obtain ⟨p, n, cp, rfl, hrs, hpB⟩ := hto.recs (by omega)
        obtain ⟨er, rz, hq⟩ : ∃ x y, Wire.rNum r = (x, y) := ⟨_, _, rfl⟩
        have her := Wire.rNum_lt r
        rw [hq] at her
        simp only at her
        have hspec := HB.out rs r er rz hall hq
        obtain ⟨ee, hee⟩ : ∃ ee, min er 100 = ee := ⟨_, rfl⟩
        have he100 : ee ≤ 100 := by omega
        rw [hee] at hspec
        obtain ⟨m, hm⟩ : ∃ m : Msg, m = ⟨(kk : Nat), te, di, id, lsn, low, key, hi, n8 == 1, n9 == 1, val, rs, (ee : Nat)⟩ := ⟨_, rfl⟩
        rw [← hm] at hspec
        have HSp := Lib.hid hspec
        have hmin : ∀ w', (Builtin.min_ #[22, 22] 22 #[.int .u64 er, .int .u64 100]).run Try.prog w' = .ok (.int .u64 ee) w' := by
          intro w'
          rw [run_min_int2, show (if (100 : Int) < er then (100 : Int) else er) = ee from by split <;> omega]
        have hwe : IntKind.i64.wrap (ee : Int) = (ee : Int) := IntWalk.i64_in _ (by omega)
        have hok : m.ok := by
          rw [hm]
          refine ⟨by simp only; omega, l1, l2, l3, l4, l5, ?_, ?_, ?_, hto.oks, by simp only; omega⟩
          · simp only; omega
          · simp only; omega
          · simp only; omega
        have hMr := hto.msg
        have HQ := Lib.hid hq
        have HM := Lib.hid hm
        have HLn := Lib.hid hto.len
        clear hq hspec hm hall hout hee hto
        go_wp2_with fail
        refine (qNum_any Q r wc hrd hsr).mono ?_
        rw [HQ.out]
        rintro e x1 ⟨rfl, hQx, hmx⟩
        have hMx := hMr.mod hmx (by simpa using hMQ)
        have hEx : MsgAt x1 w.heap.size zeroMsg none 0 0 := Blk.mod hEr hmx (by simp; omega)
        have hbx : Below w.heap.size w x1 := Mod.fresh hbw hmx (by simp; omega)
        have hrx : RecsAt x1 p n cp rs := hrs.mod18 hmx (fun g o e => by have := hpB g o e; simp; omega)
        have z12 := hMx.free 12
        have y12 : x1.cell? ⟨M, 12, none⟩ = some (.int .i64 0) := by rw [hMx.cell]; rfl
        go_upto_region 23 with fail
        have hMy : MsgAt (x1.setCell ⟨M, 12, none⟩ (.int .i64 ee)) M m p n cp := by
          have h : Blk (x1.setCell ⟨M, 12, none⟩ (.int .i64 ee)) M (msgCells ⟨(kk : Nat), te, di, id, lsn, low, key, hi, n8 == 1, n9 == 1, val, rs, (ee : Nat)⟩ p n cp) 26 := hMx.set 12 _
          rw [HM.out]; exact h
        have hEy : MsgAt (x1.setCell ⟨M, 12, none⟩ (.int .i64 ee)) w.heap.size zeroMsg none 0 0 := Blk.other hEx _ _ (Ne.symm hME)
        have hQy : QdAt (x1.setCell ⟨M, 12, none⟩ (.int .i64 ee)) Q rz := Blk.other hQx _ _ (Ne.symm hMQ)
        have hby : Below w.heap.size w (x1.setCell ⟨M, 12, none⟩ (.int .i64 ee)) := hbx.setCell hMw _
        have hry : RecsAt (x1.setCell ⟨M, 12, none⟩ (.int .i64 ee)) p n cp m.recs := by
          rw [HM.out]
          exact hrx.other _ _ (fun g o e => by have := hpB g o e; show g ≠ M; omega)
        generalize x1.setCell ⟨M, 12, none⟩ (.int .i64 ee) = y0 at *
        clear z12 y12 hMx hEx hQx hbx hrx hmin hwe hMr hEr hrd hbw hrs hmx
        obtain ⟨c0, c1, c2, c3, c4, c5, c6, c7, c8, c9, c10, c11, c12⟩ := hMy.cells
        have hen := rEncode_any m p n cp y0 hry hok
        unfold msgV at hen
        have Hen := Lib.hid hen
        clear hen
        go_wp2_with fail
        refine Hen.out.mono ?_
        rintro e y1 ⟨rfl, hb1⟩
        have hMz : MsgAt y1 M m p n cp := Blk.on hMy hb1
        have hEz : MsgAt y1 w.heap.size zeroMsg none 0 0 := Blk.on hEy hb1
        have hQz : QdAt y1 Q rz := Blk.on hQy hb1
        have hbz := hby.on hb1
        have hrz := hry.on hb1
        clear c0 c1 c2 c3 c4 c5 c6 c7 c8 c9 c10 c11 c12 Hen hMy hEy hQy hby hry hb1
        have HpE := Lib.hid (show ∀ g o, p = some ⟨g, o, none⟩ → g ∉ [w.heap.size] from fun g o e => by have := hpB g o e; simp; omega)
        clear hs hsl HO hEQ hAQ l1 l2 l3 l4 l5 l6 l7 l10 l11 s5 s6 s7 s8 s9 s10 s11 HB hv6 hk100 hMw hME hMQ hk501 hsr hlt4 her he100 HQ HM HLn hpB
        cases his : is
        · have HN := Lib.hid (show refM s = none by rw [HSp.out, if_neg (fun h => by have := h.1; rw [his] at this; cases this)])
          clear his
          have e0 : y1.cell? ⟨w.heap.size, 0, none⟩ = some (.int .i64 0) := by unfold MsgAt at hEz; rw [hEz.cell]; rfl
          have f0 := Blk.free hEz 0
          have e1 : y1.cell? ⟨w.heap.size, 1, none⟩ = some (.int .u64 0) := by unfold MsgAt at hEz; rw [hEz.cell]; rfl
          have f1 := Blk.free hEz 1
          have e2 : y1.cell? ⟨w.heap.size, 2, none⟩ = some (.int .u64 0) := by unfold MsgAt at hEz; rw [hEz.cell]; rfl
          have f2 := Blk.free hEz 2
          have e3 : y1.cell? ⟨w.heap.size, 3, none⟩ = some (.int .u64 0) := by unfold MsgAt at hEz; rw [hEz.cell]; rfl
          have f3 := Blk.free hEz 3
          have e4 : y1.cell? ⟨w.heap.size, 4, none⟩ = some (.int .u64 0) := by unfold MsgAt at hEz; rw [hEz.cell]; rfl
          have f4 := Blk.free hEz 4
          have e5 : y1.cell? ⟨w.heap.size, 5, none⟩ = some (.int .u64 0) := by unfold MsgAt at hEz; rw [hEz.cell]; rfl
          have f5 := Blk.free hEz 5
          have e6 : y1.cell? ⟨w.heap.size, 6, none⟩ = some (.string ⟨#[]⟩) := by unfold MsgAt at hEz; rw [hEz.cell]; rfl
          have f6 := Blk.free hEz 6
          have e7 : y1.cell? ⟨w.heap.size, 7, none⟩ = some (.string ⟨#[]⟩) := by unfold MsgAt at hEz; rw [hEz.cell]; rfl
          have f7 := Blk.free hEz 7
          have e8 : y1.cell? ⟨w.heap.size, 8, none⟩ = some (.bool false) := by unfold MsgAt at hEz; rw [hEz.cell]; rfl
          have f8 := Blk.free hEz 8
          have e9 : y1.cell? ⟨w.heap.size, 9, none⟩ = some (.bool false) := by unfold MsgAt at hEz; rw [hEz.cell]; rfl
          have f9 := Blk.free hEz 9
          have e10 : y1.cell? ⟨w.heap.size, 10, none⟩ = some (.string ⟨#[]⟩) := by unfold MsgAt at hEz; rw [hEz.cell]; rfl
          have f10 := Blk.free hEz 10
          have e11 : y1.cell? ⟨w.heap.size, 11, none⟩ = some (.slice none 0 0) := by unfold MsgAt at hEz; rw [hEz.cell]; rfl
          have f11 := Blk.free hEz 11
          have e12 : y1.cell? ⟨w.heap.size, 12, none⟩ = some (.int .i64 0) := by unfold MsgAt at hEz; rw [hEz.cell]; rfl
          have f12 := Blk.free hEz 12
          have hEf := (Blk.set (Blk.set (Blk.set (Blk.set (Blk.set (Blk.set (Blk.set (Blk.set (Blk.set (Blk.set (Blk.set (Blk.set (Blk.set hEz 0 (.int .i64 0)) 1 (.int .u64 0)) 2 (.int .u64 0)) 3 (.int .u64 0)) 4 (.int .u64 0)) 5 (.int .u64 0)) 6 (.string ⟨#[]⟩)) 7 (.string ⟨#[]⟩)) 8 (.bool false)) 9 (.bool false)) 10 (.string ⟨#[]⟩)) 11 (.slice none 0 0)) 12 (.int .i64 0))
          have hMf := ((((((((((((((Mod.refl [w.heap.size] y1).setCell ⟨w.heap.size, 0, none⟩ (.int .i64 0) (.inl (by simp))).setCell ⟨w.heap.size, 1, none⟩ (.int .u64 0) (.inl (by simp))).setCell ⟨w.heap.size, 2, none⟩ (.int .u64 0) (.inl (by simp))).setCell ⟨w.heap.size, 3, none⟩ (.int .u64 0) (.inl (by simp))).setCell ⟨w.heap.size, 4, none⟩ (.int .u64 0) (.inl (by simp))).setCell ⟨w.heap.size, 5, none⟩ (.int .u64 0) (.inl (by simp))).setCell ⟨w.heap.size, 6, none⟩ (.string ⟨#[]⟩) (.inl (by simp))).setCell ⟨w.heap.size, 7, none⟩ (.string ⟨#[]⟩) (.inl (by simp))).setCell ⟨w.heap.size, 8, none⟩ (.bool false) (.inl (by simp))).setCell ⟨w.heap.size, 9, none⟩ (.bool false) (.inl (by simp))).setCell ⟨w.heap.size, 10, none⟩ (.string ⟨#[]⟩) (.inl (by simp))).setCell ⟨w.heap.size, 11, none⟩ (.slice none 0 0) (.inl (by simp))).setCell ⟨w.heap.size, 12, none⟩ (.int .i64 0) (.inl (by simp)))
          go_wp2_with fail
          refine bodyPost_ret (results_msg_tmp rfl _ rfl (.int .i64 4) rfl (m := zeroMsg) hEf) rfl ?_
          rw [HN.out]
          exact ⟨Mod.fresh hbz hMf (by simp), rfl⟩
        · have hend := qend_any Q rz y1 hQz
          by_cases hrz0 : rz = some []
          · rw [show decide (rz = some []) = true from by simp [hrz0]] at hend
            have HEnd := Lib.hid hend
            clear hend
            by_cases hck : checkM m = 0
            · by_cases hes : encM m = s
              · have HN := Lib.hid (show refM s = some m by rw [HSp.out, if_pos ⟨his, hrz0, hck, hes⟩])
                rw [hck, hes]
                clear his hrz0 hck hes
                go_wp2_with fail
                refine HEnd.out.mono ?_
                rintro e y2 ⟨rfl, rfl⟩
                have e0 : y1.cell? ⟨w.heap.size, 0, none⟩ = some (.int .i64 0) := by unfold MsgAt at hEz; rw [hEz.cell]; rfl
                have f0 := Blk.free hEz 0
                have e1 : y1.cell? ⟨w.heap.size, 1, none⟩ = some (.int .u64 0) := by unfold MsgAt at hEz; rw [hEz.cell]; rfl
                have f1 := Blk.free hEz 1
                have e2 : y1.cell? ⟨w.heap.size, 2, none⟩ = some (.int .u64 0) := by unfold MsgAt at hEz; rw [hEz.cell]; rfl
                have f2 := Blk.free hEz 2
                have e3 : y1.cell? ⟨w.heap.size, 3, none⟩ = some (.int .u64 0) := by unfold MsgAt at hEz; rw [hEz.cell]; rfl
                have f3 := Blk.free hEz 3
                have e4 : y1.cell? ⟨w.heap.size, 4, none⟩ = some (.int .u64 0) := by unfold MsgAt at hEz; rw [hEz.cell]; rfl
                have f4 := Blk.free hEz 4
                have e5 : y1.cell? ⟨w.heap.size, 5, none⟩ = some (.int .u64 0) := by unfold MsgAt at hEz; rw [hEz.cell]; rfl
                have f5 := Blk.free hEz 5
                have e6 : y1.cell? ⟨w.heap.size, 6, none⟩ = some (.string ⟨#[]⟩) := by unfold MsgAt at hEz; rw [hEz.cell]; rfl
                have f6 := Blk.free hEz 6
                have e7 : y1.cell? ⟨w.heap.size, 7, none⟩ = some (.string ⟨#[]⟩) := by unfold MsgAt at hEz; rw [hEz.cell]; rfl
                have f7 := Blk.free hEz 7
                have e8 : y1.cell? ⟨w.heap.size, 8, none⟩ = some (.bool false) := by unfold MsgAt at hEz; rw [hEz.cell]; rfl
                have f8 := Blk.free hEz 8
                have e9 : y1.cell? ⟨w.heap.size, 9, none⟩ = some (.bool false) := by unfold MsgAt at hEz; rw [hEz.cell]; rfl
                have f9 := Blk.free hEz 9
                have e10 : y1.cell? ⟨w.heap.size, 10, none⟩ = some (.string ⟨#[]⟩) := by unfold MsgAt at hEz; rw [hEz.cell]; rfl
                have f10 := Blk.free hEz 10
                have e11 : y1.cell? ⟨w.heap.size, 11, none⟩ = some (.slice none 0 0) := by unfold MsgAt at hEz; rw [hEz.cell]; rfl
                have f11 := Blk.free hEz 11
                have e12 : y1.cell? ⟨w.heap.size, 12, none⟩ = some (.int .i64 0) := by unfold MsgAt at hEz; rw [hEz.cell]; rfl
                have f12 := Blk.free hEz 12
                obtain ⟨c0, c1, c2, c3, c4, c5, c6, c7, c8, c9, c10, c11, c12⟩ := hMz.cells
                have hEf := (Blk.set (Blk.set (Blk.set (Blk.set (Blk.set (Blk.set (Blk.set (Blk.set (Blk.set (Blk.set (Blk.set (Blk.set (Blk.set hEz 0 (.int .i64 m.kind)) 1 (.int .u64 m.te)) 2 (.int .u64 m.di)) 3 (.int .u64 m.id)) 4 (.int .u64 m.lsn)) 5 (.int .u64 m.low)) 6 (.string ⟨m.key.toArray⟩)) 7 (.string ⟨m.hi.toArray⟩)) 8 (.bool m.del)) 9 (.bool m.found)) 10 (.string ⟨m.val.toArray⟩)) 11 (.slice p n cp)) 12 (.int .i64 m.err))
                have hMf := ((((((((((((((Mod.refl [w.heap.size] y1).setCell ⟨w.heap.size, 0, none⟩ (.int .i64 m.kind) (.inl (by simp))).setCell ⟨w.heap.size, 1, none⟩ (.int .u64 m.te) (.inl (by simp))).setCell ⟨w.heap.size, 2, none⟩ (.int .u64 m.di) (.inl (by simp))).setCell ⟨w.heap.size, 3, none⟩ (.int .u64 m.id) (.inl (by simp))).setCell ⟨w.heap.size, 4, none⟩ (.int .u64 m.lsn) (.inl (by simp))).setCell ⟨w.heap.size, 5, none⟩ (.int .u64 m.low) (.inl (by simp))).setCell ⟨w.heap.size, 6, none⟩ (.string ⟨m.key.toArray⟩) (.inl (by simp))).setCell ⟨w.heap.size, 7, none⟩ (.string ⟨m.hi.toArray⟩) (.inl (by simp))).setCell ⟨w.heap.size, 8, none⟩ (.bool m.del) (.inl (by simp))).setCell ⟨w.heap.size, 9, none⟩ (.bool m.found) (.inl (by simp))).setCell ⟨w.heap.size, 10, none⟩ (.string ⟨m.val.toArray⟩) (.inl (by simp))).setCell ⟨w.heap.size, 11, none⟩ (.slice p n cp) (.inl (by simp))).setCell ⟨w.heap.size, 12, none⟩ (.int .i64 m.err) (.inl (by simp)))
                go_wp2_with fail
                refine bodyPost_ret (results_msg_tmp rfl _ rfl (.int .i64 0) rfl (m := m) hEf) rfl ?_
                rw [HN.out]
                exact ⟨Mod.fresh hbz hMf (by simp), p, n, cp, rfl, hrz.mod18 hMf HpE.out, hok⟩
              · have HN := Lib.hid (show refM s = none by rw [HSp.out, if_neg (fun h => hes h.2.2.2)])
                rw [hck]
                clear his hrz0 hck HSp
                generalize encM m = z at *
                have hb1 : (z == s) = false := by simpa using hes
                have hb2 : (z != s) = true := by simpa using hes
                go_wp2_with fail
                refine HEnd.out.mono ?_
                rintro e y2 ⟨rfl, rfl⟩
                have e0 : y1.cell? ⟨w.heap.size, 0, none⟩ = some (.int .i64 0) := by unfold MsgAt at hEz; rw [hEz.cell]; rfl
                have f0 := Blk.free hEz 0
                have e1 : y1.cell? ⟨w.heap.size, 1, none⟩ = some (.int .u64 0) := by unfold MsgAt at hEz; rw [hEz.cell]; rfl
                have f1 := Blk.free hEz 1
                have e2 : y1.cell? ⟨w.heap.size, 2, none⟩ = some (.int .u64 0) := by unfold MsgAt at hEz; rw [hEz.cell]; rfl
                have f2 := Blk.free hEz 2
                have e3 : y1.cell? ⟨w.heap.size, 3, none⟩ = some (.int .u64 0) := by unfold MsgAt at hEz; rw [hEz.cell]; rfl
                have f3 := Blk.free hEz 3
                have e4 : y1.cell? ⟨w.heap.size, 4, none⟩ = some (.int .u64 0) := by unfold MsgAt at hEz; rw [hEz.cell]; rfl
                have f4 := Blk.free hEz 4
                have e5 : y1.cell? ⟨w.heap.size, 5, none⟩ = some (.int .u64 0) := by unfold MsgAt at hEz; rw [hEz.cell]; rfl
                have f5 := Blk.free hEz 5
                have e6 : y1.cell? ⟨w.heap.size, 6, none⟩ = some (.string ⟨#[]⟩) := by unfold MsgAt at hEz; rw [hEz.cell]; rfl
                have f6 := Blk.free hEz 6
                have e7 : y1.cell? ⟨w.heap.size, 7, none⟩ = some (.string ⟨#[]⟩) := by unfold MsgAt at hEz; rw [hEz.cell]; rfl
                have f7 := Blk.free hEz 7
                have e8 : y1.cell? ⟨w.heap.size, 8, none⟩ = some (.bool false) := by unfold MsgAt at hEz; rw [hEz.cell]; rfl
                have f8 := Blk.free hEz 8
                have e9 : y1.cell? ⟨w.heap.size, 9, none⟩ = some (.bool false) := by unfold MsgAt at hEz; rw [hEz.cell]; rfl
                have f9 := Blk.free hEz 9
                have e10 : y1.cell? ⟨w.heap.size, 10, none⟩ = some (.string ⟨#[]⟩) := by unfold MsgAt at hEz; rw [hEz.cell]; rfl
                have f10 := Blk.free hEz 10
                have e11 : y1.cell? ⟨w.heap.size, 11, none⟩ = some (.slice none 0 0) := by unfold MsgAt at hEz; rw [hEz.cell]; rfl
                have f11 := Blk.free hEz 11
                have e12 : y1.cell? ⟨w.heap.size, 12, none⟩ = some (.int .i64 0) := by unfold MsgAt at hEz; rw [hEz.cell]; rfl
                have f12 := Blk.free hEz 12
                have hEf := (Blk.set (Blk.set (Blk.set (Blk.set (Blk.set (Blk.set (Blk.set (Blk.set (Blk.set (Blk.set (Blk.set (Blk.set (Blk.set hEz 0 (.int .i64 0)) 1 (.int .u64 0)) 2 (.int .u64 0)) 3 (.int .u64 0)) 4 (.int .u64 0)) 5 (.int .u64 0)) 6 (.string ⟨#[]⟩)) 7 (.string ⟨#[]⟩)) 8 (.bool false)) 9 (.bool false)) 10 (.string ⟨#[]⟩)) 11 (.slice none 0 0)) 12 (.int .i64 0))
                have hMf := ((((((((((((((Mod.refl [w.heap.size] y1).setCell ⟨w.heap.size, 0, none⟩ (.int .i64 0) (.inl (by simp))).setCell ⟨w.heap.size, 1, none⟩ (.int .u64 0) (.inl (by simp))).setCell ⟨w.heap.size, 2, none⟩ (.int .u64 0) (.inl (by simp))).setCell ⟨w.heap.size, 3, none⟩ (.int .u64 0) (.inl (by simp))).setCell ⟨w.heap.size, 4, none⟩ (.int .u64 0) (.inl (by simp))).setCell ⟨w.heap.size, 5, none⟩ (.int .u64 0) (.inl (by simp))).setCell ⟨w.heap.size, 6, none⟩ (.string ⟨#[]⟩) (.inl (by simp))).setCell ⟨w.heap.size, 7, none⟩ (.string ⟨#[]⟩) (.inl (by simp))).setCell ⟨w.heap.size, 8, none⟩ (.bool false) (.inl (by simp))).setCell ⟨w.heap.size, 9, none⟩ (.bool false) (.inl (by simp))).setCell ⟨w.heap.size, 10, none⟩ (.string ⟨#[]⟩) (.inl (by simp))).setCell ⟨w.heap.size, 11, none⟩ (.slice none 0 0) (.inl (by simp))).setCell ⟨w.heap.size, 12, none⟩ (.int .i64 0) (.inl (by simp)))
                go_wp2_with fail
                refine bodyPost_ret (results_msg_tmp rfl _ rfl (.int .i64 4) rfl (m := zeroMsg) hEf) rfl ?_
                rw [HN.out]
                exact ⟨Mod.fresh hbz hMf (by simp), rfl⟩
            · have HN := Lib.hid (show refM s = none by rw [HSp.out, if_neg (fun h => hck h.2.2.1)])
              have hci : ((checkM m : Int) != 0) = true := by simp; omega
              clear his hrz0 hck
              go_wp2_with fail
              refine HEnd.out.mono ?_
              rintro e y2 ⟨rfl, rfl⟩
              have e0 : y1.cell? ⟨w.heap.size, 0, none⟩ = some (.int .i64 0) := by unfold MsgAt at hEz; rw [hEz.cell]; rfl
              have f0 := Blk.free hEz 0
              have e1 : y1.cell? ⟨w.heap.size, 1, none⟩ = some (.int .u64 0) := by unfold MsgAt at hEz; rw [hEz.cell]; rfl
              have f1 := Blk.free hEz 1
              have e2 : y1.cell? ⟨w.heap.size, 2, none⟩ = some (.int .u64 0) := by unfold MsgAt at hEz; rw [hEz.cell]; rfl
              have f2 := Blk.free hEz 2
              have e3 : y1.cell? ⟨w.heap.size, 3, none⟩ = some (.int .u64 0) := by unfold MsgAt at hEz; rw [hEz.cell]; rfl
              have f3 := Blk.free hEz 3
              have e4 : y1.cell? ⟨w.heap.size, 4, none⟩ = some (.int .u64 0) := by unfold MsgAt at hEz; rw [hEz.cell]; rfl
              have f4 := Blk.free hEz 4
              have e5 : y1.cell? ⟨w.heap.size, 5, none⟩ = some (.int .u64 0) := by unfold MsgAt at hEz; rw [hEz.cell]; rfl
              have f5 := Blk.free hEz 5
              have e6 : y1.cell? ⟨w.heap.size, 6, none⟩ = some (.string ⟨#[]⟩) := by unfold MsgAt at hEz; rw [hEz.cell]; rfl
              have f6 := Blk.free hEz 6
              have e7 : y1.cell? ⟨w.heap.size, 7, none⟩ = some (.string ⟨#[]⟩) := by unfold MsgAt at hEz; rw [hEz.cell]; rfl
              have f7 := Blk.free hEz 7
              have e8 : y1.cell? ⟨w.heap.size, 8, none⟩ = some (.bool false) := by unfold MsgAt at hEz; rw [hEz.cell]; rfl
              have f8 := Blk.free hEz 8
              have e9 : y1.cell? ⟨w.heap.size, 9, none⟩ = some (.bool false) := by unfold MsgAt at hEz; rw [hEz.cell]; rfl
              have f9 := Blk.free hEz 9
              have e10 : y1.cell? ⟨w.heap.size, 10, none⟩ = some (.string ⟨#[]⟩) := by unfold MsgAt at hEz; rw [hEz.cell]; rfl
              have f10 := Blk.free hEz 10
              have e11 : y1.cell? ⟨w.heap.size, 11, none⟩ = some (.slice none 0 0) := by unfold MsgAt at hEz; rw [hEz.cell]; rfl
              have f11 := Blk.free hEz 11
              have e12 : y1.cell? ⟨w.heap.size, 12, none⟩ = some (.int .i64 0) := by unfold MsgAt at hEz; rw [hEz.cell]; rfl
              have f12 := Blk.free hEz 12
              have hEf := (Blk.set (Blk.set (Blk.set (Blk.set (Blk.set (Blk.set (Blk.set (Blk.set (Blk.set (Blk.set (Blk.set (Blk.set (Blk.set hEz 0 (.int .i64 0)) 1 (.int .u64 0)) 2 (.int .u64 0)) 3 (.int .u64 0)) 4 (.int .u64 0)) 5 (.int .u64 0)) 6 (.string ⟨#[]⟩)) 7 (.string ⟨#[]⟩)) 8 (.bool false)) 9 (.bool false)) 10 (.string ⟨#[]⟩)) 11 (.slice none 0 0)) 12 (.int .i64 0))
              have hMf := ((((((((((((((Mod.refl [w.heap.size] y1).setCell ⟨w.heap.size, 0, none⟩ (.int .i64 0) (.inl (by simp))).setCell ⟨w.heap.size, 1, none⟩ (.int .u64 0) (.inl (by simp))).setCell ⟨w.heap.size, 2, none⟩ (.int .u64 0) (.inl (by simp))).setCell ⟨w.heap.size, 3, none⟩ (.int .u64 0) (.inl (by simp))).setCell ⟨w.heap.size, 4, none⟩ (.int .u64 0) (.inl (by simp))).setCell ⟨w.heap.size, 5, none⟩ (.int .u64 0) (.inl (by simp))).setCell ⟨w.heap.size, 6, none⟩ (.string ⟨#[]⟩) (.inl (by simp))).setCell ⟨w.heap.size, 7, none⟩ (.string ⟨#[]⟩) (.inl (by simp))).setCell ⟨w.heap.size, 8, none⟩ (.bool false) (.inl (by simp))).setCell ⟨w.heap.size, 9, none⟩ (.bool false) (.inl (by simp))).setCell ⟨w.heap.size, 10, none⟩ (.string ⟨#[]⟩) (.inl (by simp))).setCell ⟨w.heap.size, 11, none⟩ (.slice none 0 0) (.inl (by simp))).setCell ⟨w.heap.size, 12, none⟩ (.int .i64 0) (.inl (by simp)))
              go_wp2_with fail
              refine bodyPost_ret (results_msg_tmp rfl _ rfl (.int .i64 4) rfl (m := zeroMsg) hEf) rfl ?_
              rw [HN.out]
              exact ⟨Mod.fresh hbz hMf (by simp), rfl⟩
          · rw [show decide (rz = some []) = false from by simp [hrz0]] at hend
            have HEnd := Lib.hid hend
            have HN := Lib.hid (show refM s = none by rw [HSp.out, if_neg (fun h => hrz0 h.2.1)])
            clear hend his hrz0
            go_wp2_with fail
            refine HEnd.out.mono ?_
            rintro e y2 ⟨rfl, rfl⟩
            have e0 : y1.cell? ⟨w.heap.size, 0, none⟩ = some (.int .i64 0) := by unfold MsgAt at hEz; rw [hEz.cell]; rfl
            have f0 := Blk.free hEz 0
            have e1 : y1.cell? ⟨w.heap.size, 1, none⟩ = some (.int .u64 0) := by unfold MsgAt at hEz; rw [hEz.cell]; rfl
            have f1 := Blk.free hEz 1
            have e2 : y1.cell? ⟨w.heap.size, 2, none⟩ = some (.int .u64 0) := by unfold MsgAt at hEz; rw [hEz.cell]; rfl
            have f2 := Blk.free hEz 2
            have e3 : y1.cell? ⟨w.heap.size, 3, none⟩ = some (.int .u64 0) := by unfold MsgAt at hEz; rw [hEz.cell]; rfl
            have f3 := Blk.free hEz 3
            have e4 : y1.cell? ⟨w.heap.size, 4, none⟩ = some (.int .u64 0) := by unfold MsgAt at hEz; rw [hEz.cell]; rfl
            have f4 := Blk.free hEz 4
            have e5 : y1.cell? ⟨w.heap.size, 5, none⟩ = some (.int .u64 0) := by unfold MsgAt at hEz; rw [hEz.cell]; rfl
            have f5 := Blk.free hEz 5
            have e6 : y1.cell? ⟨w.heap.size, 6, none⟩ = some (.string ⟨#[]⟩) := by unfold MsgAt at hEz; rw [hEz.cell]; rfl
            have f6 := Blk.free hEz 6
            have e7 : y1.cell? ⟨w.heap.size, 7, none⟩ = some (.string ⟨#[]⟩) := by unfold MsgAt at hEz; rw [hEz.cell]; rfl
            have f7 := Blk.free hEz 7
            have e8 : y1.cell? ⟨w.heap.size, 8, none⟩ = some (.bool false) := by unfold MsgAt at hEz; rw [hEz.cell]; rfl
            have f8 := Blk.free hEz 8
            have e9 : y1.cell? ⟨w.heap.size, 9, none⟩ = some (.bool false) := by unfold MsgAt at hEz; rw [hEz.cell]; rfl
            have f9 := Blk.free hEz 9
            have e10 : y1.cell? ⟨w.heap.size, 10, none⟩ = some (.string ⟨#[]⟩) := by unfold MsgAt at hEz; rw [hEz.cell]; rfl
            have f10 := Blk.free hEz 10
            have e11 : y1.cell? ⟨w.heap.size, 11, none⟩ = some (.slice none 0 0) := by unfold MsgAt at hEz; rw [hEz.cell]; rfl
            have f11 := Blk.free hEz 11
            have e12 : y1.cell? ⟨w.heap.size, 12, none⟩ = some (.int .i64 0) := by unfold MsgAt at hEz; rw [hEz.cell]; rfl
            have f12 := Blk.free hEz 12
            have hEf := (Blk.set (Blk.set (Blk.set (Blk.set (Blk.set (Blk.set (Blk.set (Blk.set (Blk.set (Blk.set (Blk.set (Blk.set (Blk.set hEz 0 (.int .i64 0)) 1 (.int .u64 0)) 2 (.int .u64 0)) 3 (.int .u64 0)) 4 (.int .u64 0)) 5 (.int .u64 0)) 6 (.string ⟨#[]⟩)) 7 (.string ⟨#[]⟩)) 8 (.bool false)) 9 (.bool false)) 10 (.string ⟨#[]⟩)) 11 (.slice none 0 0)) 12 (.int .i64 0))
            have hMf := ((((((((((((((Mod.refl [w.heap.size] y1).setCell ⟨w.heap.size, 0, none⟩ (.int .i64 0) (.inl (by simp))).setCell ⟨w.heap.size, 1, none⟩ (.int .u64 0) (.inl (by simp))).setCell ⟨w.heap.size, 2, none⟩ (.int .u64 0) (.inl (by simp))).setCell ⟨w.heap.size, 3, none⟩ (.int .u64 0) (.inl (by simp))).setCell ⟨w.heap.size, 4, none⟩ (.int .u64 0) (.inl (by simp))).setCell ⟨w.heap.size, 5, none⟩ (.int .u64 0) (.inl (by simp))).setCell ⟨w.heap.size, 6, none⟩ (.string ⟨#[]⟩) (.inl (by simp))).setCell ⟨w.heap.size, 7, none⟩ (.string ⟨#[]⟩) (.inl (by simp))).setCell ⟨w.heap.size, 8, none⟩ (.bool false) (.inl (by simp))).setCell ⟨w.heap.size, 9, none⟩ (.bool false) (.inl (by simp))).setCell ⟨w.heap.size, 10, none⟩ (.string ⟨#[]⟩) (.inl (by simp))).setCell ⟨w.heap.size, 11, none⟩ (.slice none 0 0) (.inl (by simp))).setCell ⟨w.heap.size, 12, none⟩ (.int .i64 0) (.inl (by simp)))
            go_wp2_with fail
            refine bodyPost_ret (results_msg_tmp rfl _ rfl (.int .i64 4) rfl (m := zeroMsg) hEf) rfl ?_
            rw [HN.out]
            exact ⟨Mod.fresh hbz hMf (by simp), rfl⟩
end Go.Proofs.Ytnijijcbdajodaa
