/-
  The walk of package lrec's Encode. Condition: sizes that a machine has.
-/
import Derived.Test.YtjlhkmkjegamdaaLrecC
import Derived.Test.YtjlhkmkjegamdaaCrc3
import Derived.Deep.DeepCutAuto
import Derived.Deep.RegionHeld3
namespace Go.Proofs.Ytjlhkmkjegamdaa
set_option linter.unusedVariables false
set_option linter.unusedSimpArgs false
open Go.RowKit

/-- The bytes of an operation, of an entry ahead of its sum. -/
def bitN (b : Bool) : Nat := if b then 1 else 0
def opBytes (r : Rec) : List UInt8 := Wire.putText r.key ++ (Wire.putNum (bitN r.del) ++ Wire.putText r.val)
def opsBytes : List Rec → List UInt8
  | [] => []
  | r :: rs => opBytes r ++ opsBytes rs
def headBytes (ts first n : Nat) : List UInt8 := Wire.putNum ts ++ (Wire.putNum first ++ Wire.putNum n)
def bodyBytes (ts first : Nat) (rs : List Rec) : List UInt8 := headBytes ts first rs.length ++ opsBytes rs
def encBytes (ts first : Nat) (rs : List Rec) : List UInt8 := Wire.putText (sealI (bodyBytes ts first rs))
def encRes (ts first : Nat) (rs : List Rec) : List UInt8 := if checkRes ts first rs = 0 then encBytes ts first rs else []

/-- A callee that only makes memory keeps three cells. -/
theorem keep3 {f : FuncId} {args : Array Value} {w : World} {v : Value} (h : Calls Try.prog f args w fun e w' => e = .returned v ∧ Below w.heap.size w w')
    (b : Nat) (v0 v1 v2 : Value) (w0 : World) (h0 : w.cell? ⟨b, 0, none⟩ = some v0) (h1 : w.cell? ⟨b, 1, none⟩ = some v1) (h2 : w.cell? ⟨b, 2, none⟩ = some v2) (hb : Below w0.heap.size w0 w) (hlt : b < w0.heap.size) :
    Calls Try.prog f args w fun e w' => e = .returned v ∧ w'.cell? ⟨b, 0, none⟩ = some v0 ∧ w'.cell? ⟨b, 1, none⟩ = some v1 ∧ w'.cell? ⟨b, 2, none⟩ = some v2 ∧ Below w0.heap.size w0 w' :=
  h.mono fun e w' ⟨he, hw⟩ => by
    have hl : b < w.heap.size := Nat.lt_of_lt_of_le hlt hb.size
    exact ⟨he, (hw.cell (p := ⟨b, 0, none⟩) hl).trans h0, (hw.cell (p := ⟨b, 1, none⟩) hl).trans h1, (hw.cell (p := ⟨b, 2, none⟩) hl).trans h2, hb.on hw⟩

/-- A callee that only makes memory keeps two cells. -/
theorem keep2 {f : FuncId} {args : Array Value} {w : World} {v : Value} (h : Calls Try.prog f args w fun e w' => e = .returned v ∧ Below w.heap.size w w')
    (b i j : Nat) (v0 v1 : Value) (w0 : World) (h0 : w.cell? ⟨b, i, none⟩ = some v0) (h1 : w.cell? ⟨b, j, none⟩ = some v1) (hb : Below w0.heap.size w0 w) (hlt : b < w0.heap.size) :
    Calls Try.prog f args w fun e w' => e = .returned v ∧ w'.cell? ⟨b, i, none⟩ = some v0 ∧ w'.cell? ⟨b, j, none⟩ = some v1 ∧ Below w0.heap.size w0 w' :=
  h.mono fun e w' ⟨he, hw⟩ => by
    have hl : b < w.heap.size := Nat.lt_of_lt_of_le hlt hb.size
    exact ⟨he, (hw.cell (p := ⟨b, i, none⟩) hl).trans h0, (hw.cell (p := ⟨b, j, none⟩) hl).trans h1, hb.on hw⟩

theorem putNum_int (l : List UInt8) (z : Int) (n : Nat) (w : World) (hz : z = n) (hs : l.length ≤ 140737488355328) (hn : n < U64) :
    Calls Try.prog 22 #[.string ⟨l.toArray⟩, .int .u64 z] w fun e w' => e = .returned (.string ⟨(l ++ Wire.putNum n).toArray⟩) ∧ Below w.heap.size w w' := by
  subst hz; exact putNum_any l n w hs hn
theorem head_len (ts first n : Nat) : (headBytes ts first n).length ≤ 30 := by
  have h1 := (Wire.put_length 9 ts).2
  have h2 := (Wire.put_length 9 first).2
  have h3 := (Wire.put_length 9 n).2
  unfold headBytes Wire.putNum
  simp only [List.length_append]; omega

theorem may_zero {r : Rec} (h : may r = 0) : r.key.length ≤ 16 ∧ r.val.length ≤ 24 ∧ r.key ≠ [] ∧ (r.del = false ∨ r.val = []) := by
  unfold may at h
  split at h
  · split at h
    · rename_i h1 h2; exact ⟨h1.1, h1.2, h2.1, h2.2⟩
    · omega
  · omega
theorem good_all {first : Nat} : ∀ {i : Nat} {seen : List (List UInt8)} {rs : List Rec}, goodFrom first i seen rs = true → ∀ r ∈ rs, may r = 0
  | _, _, [], _, r, hr => by simp at hr
  | i, seen, x :: xs, h, r, hr => by
    simp only [goodFrom, Bool.and_eq_true] at h
    rcases List.mem_cons.1 hr with rfl | hr
    · have := h.1
      unfold goodOp at this
      simp only [Bool.and_eq_true, beq_iff_eq] at this
      exact this.1.1.1
    · exact good_all h.2 r hr
structure Good (ts first : Nat) (rs : List Rec) : Prop where
  all : goodFrom first 0 [] rs = true
  len : rs.length ≤ 6
  pos : 0 < rs.length
  ts : stampB ts = true
  first : stampB first = true
theorem check_good {ts first : Nat} {rs : List Rec} (h : checkRes ts first rs = 0) : Good ts first rs := by
  unfold checkRes at h
  split at h
  · rename_i hs
    unfold madeRes at h
    split at h
    · rename_i hm
      simp only [Bool.and_eq_true, decide_eq_true_eq] at hm
      have hl : rs.length ≤ 6 := by
        unfold shortRes at hs
        split at hs
        · omega
        · split at hs
          · assumption
          · omega
      exact ⟨hm.1.1.1, hl, hm.1.1.2, hm.1.2, hm.2⟩
    · omega
  · omega
theorem opBytes_len {r : Rec} (h : may r = 0) : (opBytes r).length ≤ 80 := by
  obtain ⟨h1, h2, _⟩ := may_zero h
  have p1 := (Wire.put_length 9 r.key.length).2
  have p2 := (Wire.put_length 9 (bitN r.del)).2
  have p3 := (Wire.put_length 9 r.val.length).2
  unfold opBytes Wire.putText Wire.putNum
  simp only [List.length_append]; omega
theorem opsBytes_snoc (rs : List Rec) (r : Rec) : opsBytes (rs ++ [r]) = opsBytes rs ++ opBytes r := by
  induction rs with
  | nil => simp [opsBytes]
  | cons x xs ih => simp [opsBytes, ih]
theorem opsBytes_len {rs : List Rec} (h : ∀ r ∈ rs, may r = 0) : (opsBytes rs).length ≤ 80 * rs.length := by
  induction rs with
  | nil => simp [opsBytes]
  | cons x xs ih =>
    have h1 := opBytes_len (h x (by simp))
    have h2 := ih (fun r hr => h r (by simp [hr]))
    simp only [opsBytes, List.length_append, List.length_cons]; omega

set_option maxHeartbeats 4000000 in
theorem encode_any (ts first : Nat) (a : Option Addr) (n c : Nat) (rs : List Rec) (w : World) (h : RecsAt w a n c rs) (hr : ∀ r ∈ rs, r.ok) (ht : ts < U64) (hf : first < U64) :
    Calls Try.prog 9 #[entryV ts first a n c] w fun e w' => e = .returned (.tuple #[.string ⟨(encRes ts first rs).toArray⟩, .int .i64 (checkRes ts first rs)]) ∧ Below w.heap.size w w' := by
  have hb0 : Blk (w.alloc (.cells #[.int .u64 ts, .int .u64 first, .slice a n c] 27)) w.heap.size (entryCells ts first a n c) 27 := Blk.new _ _ _
  have hr1 := (Below.refl w.heap.size w).alloc (Nat.le_refl _) (.cells #[.int .u64 ts, .int .u64 first, .slice a n c] 27)
  have hra := h.on hr1
  unfold entryV
  go_enter Try.func9, Try.ntmps9
  go_wp2_with fail
  generalize hw1 : w.alloc (.cells #[.int .u64 ts, .int .u64 first, .slice a n c] 27) = w1 at *
  clear hw1
  refine (check_any ts first a n c rs w1 hra hr hf).mono ?_
  rintro e w2 ⟨rfl, hb2⟩
  have hb2' := hb0.on hb2
  obtain ⟨c0, c1, c2⟩ := entry_load hb2'
  have hra2 := hra.on hb2
  have hbel := hr1.trans (hb2.mono hr1.size)
  by_cases hch : checkRes ts first rs = 0
  · have HE := Lib.hid (show encRes ts first rs = encBytes ts first rs from if_pos hch)
    have HG := Lib.hid (check_good hch)
    have HC := Lib.hid hch
    rw [hch]
    clear hch hb2
    go_upto_region 4 with fail
    go_cut [5] (fun s5 wx => s5 = .string ⟨(headBytes ts first n).toArray⟩ ∧ Below w2.heap.size w2 wx)
    case first =>
      have hbd := (Below.refl w2.heap.size w2).drew
      have hlt : w.heap.size < w2.heap.size := hb2'.lt
      have hnl := h.max
      have p1 : (Wire.putNum ts).length ≤ 10 := (Wire.put_length 9 ts).2
      have p2 : (Wire.putNum first).length ≤ 10 := (Wire.put_length 9 first).2
      have hlen12 : (Wire.putNum ts ++ Wire.putNum first).length ≤ 20 := by rw [List.length_append]; omega
      have hn64 : n < U64 := by unfold U64; omega
      have hwn : IntKind.u64.wrap (n : Int) = (n : Int) := by rw [IntKind.wrap_u64]; omega
      have hl0 : ([] : List UInt8).length ≤ 140737488355328 := by simp
      have hl1 : (Wire.putNum ts).length ≤ 140737488355328 := by omega
      have hl2 : (Wire.putNum ts ++ Wire.putNum first).length ≤ 140737488355328 := by omega
      go_region_held3 (fun w' => w'.cell? ⟨w.heap.size, 0, none⟩ = some (.int .u64 ts) ∧ w'.cell? ⟨w.heap.size, 1, none⟩ = some (.int .u64 first) ∧ w'.cell? ⟨w.heap.size, 2, none⟩ = some (.slice a n c) ∧ Below w2.heap.size w2 w') (go_keep)
        (first
          | (go_at_call 22; (with_reducible refine (keep3 (putNum_any [] ts _ hl0 ht) w.heap.size (.int .u64 ts) (.int .u64 first) (.slice a n c) w2 ?_ ?_ ?_ ?_ hlt).mono ?_); assumption; assumption; assumption; assumption; rintro e w' ⟨rfl, k0, k1, k2, k3⟩)
          | (go_at_call 22; (with_reducible refine (keep3 (putNum_any (Wire.putNum ts) first _ hl1 hf) w.heap.size (.int .u64 ts) (.int .u64 first) (.slice a n c) w2 ?_ ?_ ?_ ?_ hlt).mono ?_); assumption; assumption; assumption; assumption; rintro e w' ⟨rfl, k0, k1, k2, k3⟩)
          | (go_at_call 22; (with_reducible refine (keep3 (putNum_any (Wire.putNum ts ++ Wire.putNum first) n _ hl2 hn64) w.heap.size (.int .u64 ts) (.int .u64 first) (.slice a n c) w2 ?_ ?_ ?_ ?_ hlt).mono ?_); assumption; assumption; assumption; assumption; rintro e w' ⟨rfl, k0, k1, k2, k3⟩))
      all_goals
        go_wp2_with fail
        go_meet
        exact ⟨rfl, by assumption⟩
    case rest =>
      obtain ⟨rfl, hbw⟩ := hcut
      have hra3 := hra2.on hbw
      have hb3 := hb2'.on hbw
      have hbel3 := hbel.on hbw
      obtain ⟨d0, d1, d2⟩ := entry_load hb3
      have hn := h.max
      have hlen := h.len
      clear c0 c1 c2 hra2 hb2' hbel hbw hra hr1 hb0
      go_wp2_with fail
      go_loopw [5, 7, 8, 28] (fun s5 _ _ s28 wr => ∃ (i : Nat) (S : List UInt8), i ≤ n ∧ s28 = .int .i64 i ∧ s5 = .string ⟨S.toArray⟩ ∧ S = headBytes ts first n ++ opsBytes (rs.take i) ∧ Below wc.heap.size wc wr) (fun _ _ _ s28 _ => n - (intOf s28).toNat)
      case atStart => exact ⟨0, headBytes ts first n, by omega, rfl, rfl, by simp [opsBytes], Below.refl _ _⟩
      case round =>
        obtain ⟨i, S, hi, rfl, rfl, hS, hbw⟩ := hrel
        have hall := good_all HG.out.all
        have hSl : S.length ≤ 30 + 80 * i := by
          have h1 := head_len ts first n
          have h2 := opsBytes_len (rs := rs.take i) (fun r hr => hall r (List.mem_of_mem_take hr))
          have h3 : (rs.take i).length ≤ i := List.length_take_le _ _
          rw [hS, List.length_append]; omega
        have hn6 : n ≤ 6 := by have := HG.out.len; omega
        have HS := Lib.hid hS
        have HLen := Lib.hid hlen
        clear hS
        by_cases hlt : i < n
        · obtain ⟨x, g, o, hx, hm, rfl, e0, e1, e2, e3⟩ := hra3.row hbw hlt
          obtain ⟨hk16, hv24, _, _⟩ := may_zero (hall x hm)
          have HN := Lib.hid (show S ++ opBytes x = headBytes ts first n ++ opsBytes (rs.take (i + 1)) by
            rw [HS.out, List.take_add_one, hx, Option.toList_some, opsBytes_snoc, List.append_assoc])
          clear hx hm hlen hall
          obtain ⟨kx, lx, dx, vx⟩ := x
          simp only at *
          cases dx
          · go_wp2_with fail
            have hxb : Blk (wr.alloc (.cells #[.string ⟨kx.toArray⟩, .int .u64 lx, .bool false, .string ⟨vx.toArray⟩] 24)) wr.heap.size (recCells ⟨kx, lx, false, vx⟩) 24 := Blk.new _ _ _
            have hwb := hbw.on ((Below.refl wr.heap.size wr).alloc (Nat.le_refl _) (.cells #[.string ⟨kx.toArray⟩, .int .u64 lx, .bool false, .string ⟨vx.toArray⟩] 24))
            generalize wr.alloc (.cells #[.string ⟨kx.toArray⟩, .int .u64 lx, .bool false, .string ⟨vx.toArray⟩] 24) = W1 at *
            generalize wr.heap.size = B at *
            have hBlt := hxb.lt
            have y0 : W1.cell? ⟨B, 0, none⟩ = some (.string ⟨kx.toArray⟩) := by rw [hxb.cell]; rfl
            have y3 : W1.cell? ⟨B, 3, none⟩ = some (.string ⟨vx.toArray⟩) := by rw [hxb.cell]; rfl
            have hbd := (Below.refl W1.heap.size W1).drew
            have p1 := (Wire.put_length 9 kx.length).2
            have p2 : (Wire.putText kx).length ≤ 26 := by unfold Wire.putText Wire.putNum; rw [List.length_append]; omega
            have p3 : (Wire.putNum 0).length ≤ 10 := (Wire.put_length 9 0).2
            have l1 : S.length + kx.length ≤ 140737488355000 := by omega
            have l2 : (S ++ Wire.putText kx).length ≤ 140737488355328 := by rw [List.length_append]; omega
            have l3 : (S ++ Wire.putText kx ++ Wire.putNum 0).length + vx.length ≤ 140737488355000 := by rw [List.length_append, List.length_append]; omega
            have l4 : (S ++ (Wire.putText kx ++ Wire.putNum 0)).length + vx.length ≤ 140737488355000 := by rw [List.length_append, List.length_append]; omega
            have u1 : 0 < U64 := by unfold U64; omega
            clear p1 p2 p3
            go_region_held3 (fun w' => w'.cell? ⟨B, 0, none⟩ = some (.string ⟨kx.toArray⟩) ∧ w'.cell? ⟨B, 3, none⟩ = some (.string ⟨vx.toArray⟩) ∧ Below W1.heap.size W1 w') (go_keep)
              (first
                | (go_at_call 23; (with_reducible refine (keep2 (putText_any S kx _ l1) B 0 3 (.string ⟨kx.toArray⟩) (.string ⟨vx.toArray⟩) W1 ?_ ?_ ?_ hBlt).mono ?_); assumption; assumption; assumption; rintro e w' ⟨rfl, k0, k1, k3⟩)
                | (go_at_call 22; (with_reducible refine (keep2 (putNum_int (S ++ Wire.putText kx) 0 0 _ rfl l2 u1) B 0 3 (.string ⟨kx.toArray⟩) (.string ⟨vx.toArray⟩) W1 ?_ ?_ ?_ hBlt).mono ?_); assumption; assumption; assumption; rintro e w' ⟨rfl, k0, k1, k3⟩)
                | (go_at_call 23; (with_reducible refine (keep2 (putText_any (S ++ Wire.putText kx ++ Wire.putNum 0) vx _ l3) B 0 3 (.string ⟨kx.toArray⟩) (.string ⟨vx.toArray⟩) W1 ?_ ?_ ?_ hBlt).mono ?_); assumption; assumption; assumption; rintro e w' ⟨rfl, k0, k1, k3⟩)
                | (go_at_call 23; (with_reducible refine (keep2 (putText_any (S ++ (Wire.putText kx ++ Wire.putNum 0)) vx _ l4) B 0 3 (.string ⟨kx.toArray⟩) (.string ⟨vx.toArray⟩) W1 ?_ ?_ ?_ hBlt).mono ?_); assumption; assumption; assumption; rintro e w' ⟨rfl, k0, k1, k3⟩))
            all_goals
              go_wp2_with fail
              go_roundw
              case rel => exact ⟨i + 1, _, by omega, by go_num, rfl, by rw [← HN.out]; simp only [opBytes, bitN, List.append_assoc]; rfl, hwb.on (by assumption)⟩
              case measure => simp [intOf]; omega
          · go_wp2_with fail
            have hxb : Blk (wr.alloc (.cells #[.string ⟨kx.toArray⟩, .int .u64 lx, .bool true, .string ⟨vx.toArray⟩] 24)) wr.heap.size (recCells ⟨kx, lx, true, vx⟩) 24 := Blk.new _ _ _
            have hwb := hbw.on ((Below.refl wr.heap.size wr).alloc (Nat.le_refl _) (.cells #[.string ⟨kx.toArray⟩, .int .u64 lx, .bool true, .string ⟨vx.toArray⟩] 24))
            generalize wr.alloc (.cells #[.string ⟨kx.toArray⟩, .int .u64 lx, .bool true, .string ⟨vx.toArray⟩] 24) = W1 at *
            generalize wr.heap.size = B at *
            have hBlt := hxb.lt
            have y0 : W1.cell? ⟨B, 0, none⟩ = some (.string ⟨kx.toArray⟩) := by rw [hxb.cell]; rfl
            have y3 : W1.cell? ⟨B, 3, none⟩ = some (.string ⟨vx.toArray⟩) := by rw [hxb.cell]; rfl
            have hbd := (Below.refl W1.heap.size W1).drew
            have p1 := (Wire.put_length 9 kx.length).2
            have p2 : (Wire.putText kx).length ≤ 26 := by unfold Wire.putText Wire.putNum; rw [List.length_append]; omega
            have p3 : (Wire.putNum 1).length ≤ 10 := (Wire.put_length 9 1).2
            have l1 : S.length + kx.length ≤ 140737488355000 := by omega
            have l2 : (S ++ Wire.putText kx).length ≤ 140737488355328 := by rw [List.length_append]; omega
            have l3 : (S ++ Wire.putText kx ++ Wire.putNum 1).length + vx.length ≤ 140737488355000 := by rw [List.length_append, List.length_append]; omega
            have l4 : (S ++ (Wire.putText kx ++ Wire.putNum 1)).length + vx.length ≤ 140737488355000 := by rw [List.length_append, List.length_append]; omega
            have u1 : 1 < U64 := by unfold U64; omega
            clear p1 p2 p3
            go_region_held3 (fun w' => w'.cell? ⟨B, 0, none⟩ = some (.string ⟨kx.toArray⟩) ∧ w'.cell? ⟨B, 3, none⟩ = some (.string ⟨vx.toArray⟩) ∧ Below W1.heap.size W1 w') (go_keep)
              (first
                | (go_at_call 23; (with_reducible refine (keep2 (putText_any S kx _ l1) B 0 3 (.string ⟨kx.toArray⟩) (.string ⟨vx.toArray⟩) W1 ?_ ?_ ?_ hBlt).mono ?_); assumption; assumption; assumption; rintro e w' ⟨rfl, k0, k1, k3⟩)
                | (go_at_call 22; (with_reducible refine (keep2 (putNum_int (S ++ Wire.putText kx) 1 1 _ rfl l2 u1) B 0 3 (.string ⟨kx.toArray⟩) (.string ⟨vx.toArray⟩) W1 ?_ ?_ ?_ hBlt).mono ?_); assumption; assumption; assumption; rintro e w' ⟨rfl, k0, k1, k3⟩)
                | (go_at_call 23; (with_reducible refine (keep2 (putText_any (S ++ Wire.putText kx ++ Wire.putNum 1) vx _ l3) B 0 3 (.string ⟨kx.toArray⟩) (.string ⟨vx.toArray⟩) W1 ?_ ?_ ?_ hBlt).mono ?_); assumption; assumption; assumption; rintro e w' ⟨rfl, k0, k1, k3⟩)
                | (go_at_call 23; (with_reducible refine (keep2 (putText_any (S ++ (Wire.putText kx ++ Wire.putNum 1)) vx _ l4) B 0 3 (.string ⟨kx.toArray⟩) (.string ⟨vx.toArray⟩) W1 ?_ ?_ ?_ hBlt).mono ?_); assumption; assumption; assumption; rintro e w' ⟨rfl, k0, k1, k3⟩))
            all_goals
              go_wp2_with fail
              go_roundw
              case rel => exact ⟨i + 1, _, by omega, by go_num, rfl, by rw [← HN.out]; simp only [opBytes, bitN, List.append_assoc]; rfl, hwb.on (by assumption)⟩
              case measure => simp [intOf]; omega
        · obtain rfl : i = n := by omega
          have hbel4 := hbel3.on hbw
          have hSb : S = bodyBytes ts first rs := by
            rw [HS.out, List.take_of_length_le (by omega)]; unfold bodyBytes; rw [hlen]
          subst hSb
          have hs4 := seal_length (bodyBytes ts first rs)
          clear hall
          go_wp2_with fail
          refine (seal_any _ _ (by unfold maxLen; omega)).mono ?_
          rintro e w5 ⟨rfl, hb5⟩
          go_wp2_with fail
          refine (putText_any [] _ _ (by simp; omega)).mono ?_
          rintro e w6 ⟨rfl, hb6⟩
          go_wp2_with fail
          go_ret2
          rw [HE.out, HC.out]
          exact ⟨rfl, (hbel4.on hb5).on hb6⟩
  · have HE := Lib.hid (show encRes ts first rs = [] from if_neg hch)
    have hne : (((checkRes ts first rs : Nat) : Int) == 0) = false := by rw [beq_eq_false_iff_ne]; omega
    go_wp2_with fail
    go_ret2
    rw [HE.out]
    exact ⟨rfl, hbel⟩
end Go.Proofs.Ytjlhkmkjegamdaa
