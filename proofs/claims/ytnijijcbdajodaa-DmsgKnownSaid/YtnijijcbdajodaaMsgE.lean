/-
  The walk of package dmsg's Encode. Condition: sizes that a machine has.
-/
import Derived.Test.YtnijijcbdajodaaMsgK
import Derived.Test.YtnijijcbdajodaaMsgN
import Derived.Test.YtnijijcbdajodaaMsgP
import Derived.Deep.RegionLaw
import Derived.Test.YtnijijcbdajodaaSettle
namespace Go.Proofs.Ytnijijcbdajodaa
set_option linter.unusedVariables false
set_option linter.unusedSimpArgs false
open Go.RowKit

theorem recsBytes_snoc (rs : List Rec) (r : Rec) : recsBytes (rs ++ [r]) = recsBytes rs ++ recBytes r := by
  induction rs with
  | nil => simp [recsBytes]
  | cons x xs ih => simp [recsBytes, ih]
theorem recBytes_len (r : Rec) (h : r.key.length ≤ 16 ∧ r.val.length ≤ 24) : (recBytes r).length ≤ 70 := by
  have h1 : (Wire.putNum r.key.length).length ≤ 10 := (Wire.put_length 9 _).2
  have h2 : (Wire.putNum r.lsn).length ≤ 10 := (Wire.put_length 9 _).2
  have h3 : (Wire.putNum r.val.length).length ≤ 10 := (Wire.put_length 9 _).2
  unfold recBytes Wire.putText
  simp only [List.length_append]
  omega
theorem recsBytes_len : ∀ (rs : List Rec), (∀ r ∈ rs, r.key.length ≤ 16 ∧ r.val.length ≤ 24) → (recsBytes rs).length ≤ 70 * rs.length
  | [], _ => by simp [recsBytes]
  | r :: rs, h => by
    have h1 := recBytes_len r (h r (by simp))
    have h2 := recsBytes_len rs (fun x hx => h x (by simp [hx]))
    simp only [recsBytes, List.length_append, List.length_cons]
    omega
theorem Fine.rec_ {m : Msg} (h : Fine m) (r : Rec) (hr : r ∈ m.recs) : r.key.length ≤ 16 ∧ r.val.length ≤ 24 ∧ r.lsn ≤ 1099511627776 := by
  obtain ⟨h1, _, h3⟩ := h.recs r hr
  obtain ⟨k1, k2, _, _⟩ := may_zero14 h1
  exact ⟨k1, k2, (stamp_lt h3).2⟩
theorem Fine.small {m : Msg} (h : Fine m) (r : Rec) (hr : r ∈ m.recs) : r.key.length ≤ 16 ∧ r.val.length ≤ 24 := ⟨(h.rec_ r hr).1, (h.rec_ r hr).2.1⟩

set_option maxRecDepth 100000 in
set_option maxHeartbeats 4000000 in
theorem encode_any (m : Msg) (a : Option Addr) (n c : Nat) (w : World) (h : RecsAt w a n c m.recs) (hm : m.ok) :
    Calls Try.prog 8 #[msgV m a n c] w fun e w' => e = .returned (.tuple #[.string ⟨(encM m).toArray⟩, .int .i64 (checkM m)]) ∧ Below w.heap.size w w' := by
  have hmf : ∀ (fn : Fn) (first cap : Array Value) (w : World), (Instr.makeFunc fn first cap).run Try.prog w = .ok (.func fn first cap) w := fun _ _ _ _ => rfl
  have hmax := h.max
  have HL := Lib.hid h.len
  have hB := (MsgAt.new w m a n c)
  have hb0 := (Below.refl w.heap.size w).alloc (Nat.le_refl _) (msgObj m a n c)
  have hr0 := h.on hb0
  unfold msgObj at hB hb0 hr0
  unfold msgV
  go_enter Try.func8, Try.ntmps8
  go_upto_region 1 with fail
  generalize w.alloc (.cells #[.int .i64 m.kind, .int .u64 m.te, .int .u64 m.di, .int .u64 m.id, .int .u64 m.lsn, .int .u64 m.low, .string ⟨m.key.toArray⟩, .string ⟨m.hi.toArray⟩, .bool m.del, .bool m.found, .string ⟨m.val.toArray⟩, .slice a n c, .int .i64 m.err] 26) = w1 at *
  obtain ⟨c0, c1, c2, c3, c4, c5, c6, c7, c8, c9, c10, c11, c12⟩ := hB.cells
  have Hchk := Lib.hid (check_any m a n c w1 hr0 hm)
  unfold msgV at Hchk
  go_wp2_with fail
  refine Hchk.out.mono ?_
  rintro e w2 ⟨rfl, hb2⟩
  have hB2 : MsgAt w2 w.heap.size m a n c := Blk.on hB hb2
  have hr2 := hr0.on hb2
  have hbb2 := hb0.on hb2
  clear c0 c1 c2 c3 c4 c5 c6 c7 c8 c9 c10 c11 c12 Hchk hB hr0 hb0 hb2
  by_cases hck : checkM m = 0
  · have HE := Lib.hid (show encM m = sealI (bodyM m) from if_pos hck)
    have HF := Lib.hid (fine_of hck)
    have HZ := Lib.hid hck
    rw [hck]
    obtain ⟨k, hkk, hk1, hk2⟩ := HF.out.kind
    have hwk : IntKind.u64.wrap m.kind = m.kind := by rw [hkk, IntKind.wrap_u64]; omega
    have HKK := Lib.hid hkk
    clear hck hkk
    go_upto_region 6 with fail
    have hlt2 := hB2.lt
    have hS3 : TextAt (w2.alloc (.cells #[.string ⟨#[]⟩] 9)) w2.heap.size [] := Blk.new w2 [.string ⟨#[]⟩] _
    have hb3 := (Below.refl w2.heap.size w2).alloc (Nat.le_refl _) (.cells #[.string ⟨#[]⟩] 9)
    have hB3 : MsgAt (w2.alloc (.cells #[.string ⟨#[]⟩] 9)) w.heap.size m a n c := Blk.alloc hB2 _
    have hr3 := hr2.on hb3
    have hbb3 := hbb2.on hb3
    generalize w2.alloc (.cells #[.string ⟨#[]⟩] 9) = w3 at *
    have hSw : w.heap.size ≤ w2.heap.size := hbb2.size
    clear hB2 hr2 hbb2 hb3
    generalize w2.heap.size = S at *
    obtain ⟨c0, c1, c2, c3, c4, c5, c6, c7, c8, c9, c10, c11, c12⟩ := hB3.cells
    clear c6 c7 c8 c9 c10 c11 c12
    go_wp2_with fail
    have hx4 : NumsAt (w3.alloc (.cells #[.int .u64 m.kind, .int .u64 m.te, .int .u64 m.di, .int .u64 m.id, .int .u64 m.lsn, .int .u64 m.low] 22)) w3.heap.size [k, m.te, m.di, m.id, m.lsn, m.low] := by
      rw [HKK.out]
      exact Blk.new w3 [.int .u64 (k : Int), .int .u64 m.te, .int .u64 m.di, .int .u64 m.id, .int .u64 m.lsn, .int .u64 m.low] _
    have hb4 := (Below.refl w3.heap.size w3).alloc (Nat.le_refl _) (.cells #[.int .u64 m.kind, .int .u64 m.te, .int .u64 m.di, .int .u64 m.id, .int .u64 m.lsn, .int .u64 m.low] 22)
    have hS4 : TextAt _ S [] := Blk.alloc hS3 (.cells #[.int .u64 m.kind, .int .u64 m.te, .int .u64 m.di, .int .u64 m.id, .int .u64 m.lsn, .int .u64 m.low] 22)
    have hSlt := hS3.lt
    generalize w3.alloc (.cells #[.int .u64 m.kind, .int .u64 m.te, .int .u64 m.di, .int .u64 m.id, .int .u64 m.lsn, .int .u64 m.low] 22) = w4 at *
    have hB4 : MsgAt w4 w.heap.size m a n c := Blk.on hB3 hb4
    have hr4 := hr3.on hb4
    have hbb4 := hbb3.on hb4
    clear c0 c1 c2 c3 c4 c5 hS3 hB3 hr3 hbb3 hb4
    refine (nums_any w3.heap.size S 6 [k, m.te, m.di, m.id, m.lsn, m.low] [] w4 rfl hx4 hS4 (by omega) (by
      intro x hx
      simp only [List.mem_cons, List.not_mem_nil, or_false] at hx
      have h1 := hm.te; have h2 := hm.di; have h3 := hm.id; have h4 := hm.lsn; have h5 := hm.low
      rcases hx with rfl | rfl | rfl | rfl | rfl | rfl
      · unfold U64; omega
      all_goals assumption) (by omega) (by simp)).mono ?_
    rintro e w5 ⟨rfl, hS5, hm5⟩
    have hT6 := numsBytes_len [k, m.te, m.di, m.id, m.lsn, m.low]
    have HT6 := Lib.hid (show [] ++ numsBytes [k, m.te, m.di, m.id, m.lsn, m.low] = Wire.putNum m.kind.toNat ++ (Wire.putNum m.te ++ (Wire.putNum m.di ++ (Wire.putNum m.id ++ (Wire.putNum m.lsn ++ Wire.putNum m.low)))) by
      rw [HKK.out]; simp [numsBytes])
    rw [List.nil_append] at hS5 HT6
    generalize numsBytes [k, m.te, m.di, m.id, m.lsn, m.low] = T at *
    have hB5 : MsgAt w5 w.heap.size m a n c := Blk.mod hB4 hm5 (by simp; omega)
    have hbb5 : Below w.heap.size w w5 := Mod.fresh hbb4 hm5 (by simp; omega)
    clear hS4 hB4 hbb4 hx4
    go_upto_region 7 with fail
    obtain ⟨c0, c1, c2, c3, c4, c5, c6, c7, c8, c9, c10, c11, c12⟩ := hB5.cells
    have s0 : w5.cell? ⟨S, 0, none⟩ = some (.string ⟨T.toArray⟩) := by unfold TextAt at hS5; rw [hS5.cell]; rfl
    have fs := Blk.free hS5 0
    have hkl := HF.out.key
    have hhl := HF.out.hi
    have p1 := (Wire.put_length 9 m.key.length).2
    have p2 : (Wire.putText m.key).length ≤ 26 := by unfold Wire.putText Wire.putNum; rw [List.length_append]; omega
    have l1 : T.length + m.key.length ≤ 140737488355000 := by simp at hT6; omega
    have l2 : (T ++ Wire.putText m.key).length + m.hi.length ≤ 140737488355000 := by rw [List.length_append]; simp at hT6; omega
    have hmlt := hB5.lt
    have hslt := hS5.lt
    have HC := Lib.hid (show ∀ w', Below w5.heap.size w5 w' → w'.cell? ⟨w.heap.size, 6, none⟩ = some (.string ⟨m.key.toArray⟩) ∧ w'.cell? ⟨w.heap.size, 7, none⟩ = some (.string ⟨m.hi.toArray⟩) ∧ w'.cell? ⟨S, 0, none⟩ = some (.string ⟨T.toArray⟩) ∧ w'.frozen? ⟨S, 0, none⟩ = false from fun w' hb =>
      ⟨(hb.cell (p := ⟨w.heap.size, 6, none⟩) hmlt).trans c6, (hb.cell (p := ⟨w.heap.size, 7, none⟩) hmlt).trans c7, (hb.cell (p := ⟨S, 0, none⟩) hslt).trans s0, (hb.frozen (p := ⟨S, 0, none⟩) hslt).trans fs⟩)
    obtain ⟨T1, hT1⟩ : ∃ T1, T1 = T ++ Wire.putText m.key := ⟨_, rfl⟩
    obtain ⟨T2, hT2⟩ : ∃ T2, T2 = T1 ++ Wire.putText m.hi := ⟨_, rfl⟩
    have HP := Lib.hid (show ∀ (wa : World), Below w5.heap.size w5 wa → Calls Try.prog 21 #[.string ⟨T.toArray⟩, .string ⟨m.key.toArray⟩] wa fun e w' => e = .returned (.string ⟨T1.toArray⟩) ∧ Below w5.heap.size w5 w' from
      fun wa hb => (putText_any T m.key wa l1).mono fun e w' ⟨he, hw⟩ => ⟨by rw [hT1]; exact he, hb.on hw⟩)
    have HP2 := Lib.hid (show ∀ (wa : World), Below w5.heap.size w5 wa → Calls Try.prog 21 #[.string ⟨T1.toArray⟩, .string ⟨m.hi.toArray⟩] wa fun e w' => e = .returned (.string ⟨T2.toArray⟩) ∧ Below w5.heap.size w5 w' from
      fun wa hb => (putText_any T1 m.hi wa (by rw [hT1]; exact l2)).mono fun e w' ⟨he, hw⟩ => ⟨by rw [hT2]; exact he, hb.on hw⟩)
    have HT2 := Lib.hid (show T2 = T ++ Wire.putText m.key ++ Wire.putText m.hi by rw [hT2, hT1])
    clear hT1 hT2
    refine wp_region_settle_then 7 (Below w5.heap.size w5) (by kernel_rfl) (by kernel_rfl) (by kernel_rfl) (by kernel_rfl) (by kernel_rfl) (below_drew (Below.refl _ _)) ?_
    repeat (first
      | (refine settledL_not ?_ ?_
         · rfl
         simp only [Act.put, List.setIfInBounds_toArray, List.set_cons_zero, List.set_cons_succ])
      | (refine settledL_val (v := ?_) ?_ (fun w' hS => ?_) ?_
         rotate_left
         · rfl
         · obtain ⟨k0, k1, k2, k3⟩ := HC.out w' hS
           go_simp
           with_reducible rfl
         simp only [Act.put, List.setIfInBounds_toArray, List.set_cons_zero, List.set_cons_succ])
      | (refine settledL_call (f := 21) (v := .string ⟨T1.toArray⟩) ?_ (fun w' hS => ?_) (fun w' hS => HP.out w' hS) ?_
         · rfl
         · go_simp
         simp only [Act.put, List.setIfInBounds_toArray, List.set_cons_zero, List.set_cons_succ])
      | (refine settledL_call (f := 21) (v := .string ⟨T2.toArray⟩) ?_ (fun w' hS => ?_) (fun w' hS => HP2.out w' hS) ?_
         · rfl
         · go_simp
         simp only [Act.put, List.setIfInBounds_toArray, List.set_cons_zero, List.set_cons_succ]))
    refine settledL_end (fun wx hS => ?_)
    obtain ⟨k0, k1, k2, k3⟩ := HC.out wx hS
    refine seq_step (by rfl) (fun K hK => ?_)
    go_simp
    refine hK.out _ _ (seq_nil ?_)
    have hS6 : TextAt (wx.setCell ⟨S, 0, none⟩ (.string ⟨T2.toArray⟩)) S T2 := Blk.set (Blk.on hS5 hS) 0 _
    have hm6 := (Mod.of_below (S := [S]) hS).setCell ⟨S, 0, none⟩ (.string ⟨T2.toArray⟩) (.inl (by simp))
    clear hK k0 k1 k2 k3 HC HP HP2
    clear K
    generalize wx.setCell ⟨S, 0, none⟩ (.string ⟨T2.toArray⟩) = wc at *
    have hm46 := hm5.trans hm6
    have hB6 : MsgAt wc w.heap.size m a n c := Blk.mod hB5 hm6 (by simp; omega)
    have hbb6 : Below w.heap.size w wc := Mod.fresh hbb5 hm6 (by simp; omega)
    have hlT : T2.length ≤ 200 := by
      rw [HT2.out]
      have p3 := (Wire.put_length 9 m.hi.length).2
      have p4 : (Wire.putText m.hi).length ≤ 26 := by unfold Wire.putText Wire.putNum; rw [List.length_append]; omega
      rw [List.length_append, List.length_append]; simp at hT6; omega
    have HT7 := Lib.hid (show T2 = Wire.putNum m.kind.toNat ++ (Wire.putNum m.te ++ (Wire.putNum m.di ++ (Wire.putNum m.id ++ (Wire.putNum m.lsn ++ (Wire.putNum m.low ++ (Wire.putText m.key ++ Wire.putText m.hi)))))) by rw [HT2.out, HT6.out]; simp)
    clear HT2 hm5 hm6 hB5 hbb5 hS5 hT6 HT6 c0 c1 c2 c3 c4 c5 c6 c7 c8 c9 c10 c11 c12 s0 fs p1 p2 l1 l2 hmlt hslt hkl hhl hwk hS
    obtain ⟨c0, c1, c2, c3, c4, c5, c6, c7, c8, c9, c10, c11, c12⟩ := hB6.cells
    clear c0 c1 c2 c3 c4 c5 c6 c7 c10 c11 c12
    have hSlt6 := hS6.lt
    go_upto_region 8 with fail
    have hmlt := hB6.lt
    have HC := Lib.hid (show ∀ w', Below wc.heap.size wc w' → w'.cell? ⟨w.heap.size, 8, none⟩ = some (.bool m.del) ∧ w'.cell? ⟨w.heap.size, 9, none⟩ = some (.bool m.found) from fun w' hb =>
      ⟨(hb.cell (p := ⟨w.heap.size, 8, none⟩) hmlt).trans c8, (hb.cell (p := ⟨w.heap.size, 9, none⟩) hmlt).trans c9⟩)
    have HP := Lib.hid (show ∀ (x : Bool) (wa : World), Below wc.heap.size wc wa → Calls Try.prog 22 #[.bool x] wa fun e w' => e = .returned (.int .u64 (bitM x)) ∧ Below wc.heap.size wc w' from
      fun x wa hb => (mbit_any x wa).mono fun e w' ⟨he, hw⟩ => ⟨he, hw ▸ hb⟩)
    clear hmlt
    refine wp_region_settle_take 6 (v0 := .func (.func 19) #[] #[.pointer (some ⟨S, 0, none⟩)]) (Below wc.heap.size wc) (by kernel_rfl) (by kernel_rfl) (by kernel_rfl) (by kernel_rfl) (by kernel_rfl) (by kernel_rfl) (by kernel_rfl) (below_drew (Below.refl _ _)) (fun _ _ _ h => h) (by rfl) (fun w' => by go_simp) ?_
    simp only [Act.put, List.setIfInBounds_toArray, List.set_cons_zero, List.set_cons_succ]
    repeat (first
      | (refine settledL_not ?_ ?_
         · rfl
         simp only [Act.put, List.setIfInBounds_toArray, List.set_cons_zero, List.set_cons_succ])
      | (refine settledL_val (v := ?_) ?_ (fun w' hS => ?_) ?_
         rotate_left
         · rfl
         · obtain ⟨k0, k1⟩ := HC.out w' hS
           go_simp
           with_reducible rfl
         simp only [Act.put, List.setIfInBounds_toArray, List.set_cons_zero, List.set_cons_succ])
      | (refine settledL_call (f := 22) (v := .int .u64 (bitM m.del)) ?_ (fun w' hS => ?_) (fun w' hS => HP.out m.del w' hS) ?_
         · rfl
         · go_simp
         simp only [Act.put, List.setIfInBounds_toArray, List.set_cons_zero, List.set_cons_succ])
      | (refine settledL_call (f := 22) (v := .int .u64 (bitM m.found)) ?_ (fun w' hS => ?_) (fun w' hS => HP.out m.found w' hS) ?_
         · rfl
         · go_simp
         simp only [Act.put, List.setIfInBounds_toArray, List.set_cons_zero, List.set_cons_succ]))
    refine settledL_end (fun wx hS => ?_)
    have hSx := Blk.on hS6 hS
    have hxlt := Blk.lt hSx
    have HN := Lib.hid (nums_any wx.heap.size S 2 [bitM m.del, bitM m.found] T2 (wx.alloc (.cells #[.int .u64 (bitM m.del), .int .u64 (bitM m.found)] 22)) rfl (Blk.new wx [.int .u64 (bitM m.del), .int .u64 (bitM m.found)] _) (Blk.alloc hSx _) (by omega) (by
        intro x hx
        simp only [List.mem_cons, List.not_mem_nil, or_false] at hx
        rcases hx with rfl | rfl
        · cases m.del <;> decide
        · cases m.found <;> decide) (by omega) (by omega))
    clear c8 c9
    refine seq_step (by rfl) (fun K hK => ?_)
    go_simp
    refine hK.out _ _ (seq_step (by rfl) (fun K hK => ?_))
    go_simp
    refine HN.out.mono ?_
    rintro e w7 ⟨rfl, hS7, hm7⟩
    refine hK.out _ _ (seq_nil ?_)
    have hm7 := ((Mod.of_below (S := [S]) hS).alloc _).trans hm7
    clear hK hS hSx hxlt HN HC HP
    clear K
    have hm47 := hm46.trans hm7
    have hB7 : MsgAt w7 w.heap.size m a n c := Blk.mod hB6 hm7 (by simp; omega)
    have hbb7 : Below w.heap.size w w7 := Mod.fresh hbb6 hm7 (by simp; omega)
    have hlT8 : (T2 ++ numsBytes [bitM m.del, bitM m.found]).length ≤ 220 := by
      have := numsBytes_len [bitM m.del, bitM m.found]
      rw [List.length_append]; simp at this; omega
    have HT8 := Lib.hid (show T2 ++ numsBytes [bitM m.del, bitM m.found] = Wire.putNum m.kind.toNat ++ (Wire.putNum m.te ++ (Wire.putNum m.di ++ (Wire.putNum m.id ++ (Wire.putNum m.lsn ++ (Wire.putNum m.low ++ (Wire.putText m.key ++ (Wire.putText m.hi ++ (Wire.putNum (bitM m.del) ++ Wire.putNum (bitM m.found))))))))) by rw [HT7.out]; simp [numsBytes])
    clear hm46 hm7 hB6 hbb6 hS6 hlT HT7 hSlt6
    generalize T2 ++ numsBytes [bitM m.del, bitM m.found] = T3 at *
    obtain ⟨c0, c1, c2, c3, c4, c5, c6, c7, c8, c9, c10, c11, c12⟩ := hB7.cells
    clear c0 c1 c2 c3 c4 c5 c6 c7 c8 c9 c11 c12
    have s0 : w7.cell? ⟨S, 0, none⟩ = some (.string ⟨T3.toArray⟩) := by unfold TextAt at hS7; rw [hS7.cell]; rfl
    have hvl := HF.out.val
    go_wp2_with fail
    refine (putText_any T3 m.val w7 (by omega)).mono ?_
    rintro e w8 ⟨rfl, hb8⟩
    have p1 := (Wire.put_length 9 m.val.length).2
    have p2 : (Wire.putText m.val).length ≤ 34 := by unfold Wire.putText Wire.putNum; rw [List.length_append]; omega
    have hS8 : TextAt w8 S T3 := Blk.on hS7 hb8
    have f8 := Blk.free hS8 0
    have hS9 : TextAt (w8.setCell ⟨S, 0, none⟩ (.string ⟨(T3 ++ Wire.putText m.val).toArray⟩)) S (T3 ++ Wire.putText m.val) := Blk.set hS8 0 _
    have hm9 := (Mod.of_below (S := [S]) hb8).setCell ⟨S, 0, none⟩ (.string ⟨(T3 ++ Wire.putText m.val).toArray⟩) (.inl (by simp))
    have hm49 := hm47.trans hm9
    have hB9 : MsgAt (w8.setCell ⟨S, 0, none⟩ (.string ⟨(T3 ++ Wire.putText m.val).toArray⟩)) w.heap.size m a n c := Blk.mod hB7 hm9 (by simp; omega)
    have hbb9 : Below w.heap.size w (w8.setCell ⟨S, 0, none⟩ (.string ⟨(T3 ++ Wire.putText m.val).toArray⟩)) := Mod.fresh hbb7 hm9 (by simp; omega)
    have s8 : w8.cell? ⟨S, 0, none⟩ = some (.string ⟨T3.toArray⟩) := by unfold TextAt at hS8; rw [hS8.cell]; rfl
    go_upto_region 10 with fail
    generalize w8.setCell ⟨S, 0, none⟩ (.string ⟨(T3 ++ Wire.putText m.val).toArray⟩) = w9 at *
    have hlT9 : (T3 ++ Wire.putText m.val).length ≤ 260 := by rw [List.length_append]; omega
    have HT9 := Lib.hid (show T3 ++ Wire.putText m.val = Wire.putNum m.kind.toNat ++ (Wire.putNum m.te ++ (Wire.putNum m.di ++ (Wire.putNum m.id ++ (Wire.putNum m.lsn ++ (Wire.putNum m.low ++ (Wire.putText m.key ++ (Wire.putText m.hi ++ (Wire.putNum (bitM m.del) ++ (Wire.putNum (bitM m.found) ++ Wire.putText m.val))))))))) by rw [HT8.out]; simp)
    have hn500 : n ≤ 500 := by have := HF.out.len; rw [HL.out] at this; exact this
    clear hm47 hm9 hB7 hbb7 hS7 hS8 hlT8 HT8 c10 s0 s8 f8 hvl p1 p2 hb8
    generalize T3 ++ Wire.putText m.val = T4 at *
    obtain ⟨c0, c1, c2, c3, c4, c5, c6, c7, c8, c9, c10, c11, c12⟩ := hB9.cells
    clear c0 c1 c2 c3 c4 c5 c6 c7 c8 c9 c10
    go_wp2_with fail
    have hm10 := nums_any w9.heap.size S 1 [n] T4 (w9.alloc (.cells #[.int .u64 (n : Int)] 22)) rfl (Blk.new w9 [.int .u64 (n : Int)] _) (Blk.alloc hS9 _) (by have := hS9.lt; omega) (by
        intro x hx
        simp only [List.mem_cons, List.not_mem_nil, or_false] at hx
        subst hx; unfold U64; omega) (by omega) (by omega)
    refine hm10.mono ?_
    clear hm10
    rintro e w10 ⟨rfl, hS10, hm10⟩
    have hm10 := ((Mod.refl [S] w9).alloc _).trans hm10
    have hB10 : MsgAt w10 w.heap.size m a n c := Blk.mod hB9 hm10 (by simp; omega)
    have hbb10 : Below w.heap.size w w10 := Mod.fresh hbb9 hm10 (by simp; omega)
    have hlT10 : (T4 ++ numsBytes [n]).length ≤ 280 := by
      have := numsBytes_len [n]
      rw [List.length_append]; simp at this; omega
    have HT10 := Lib.hid (show T4 ++ numsBytes [n] = Wire.putNum m.kind.toNat ++ (Wire.putNum m.te ++ (Wire.putNum m.di ++ (Wire.putNum m.id ++ (Wire.putNum m.lsn ++ (Wire.putNum m.low ++ (Wire.putText m.key ++ (Wire.putText m.hi ++ (Wire.putNum (bitM m.del) ++ (Wire.putNum (bitM m.found) ++ (Wire.putText m.val ++ Wire.putNum n)))))))))) by rw [HT9.out]; simp [numsBytes])
    clear hm49 hB9 hbb9 hS9 hlT9 HT9 c11 c12 hm10
    generalize T4 ++ numsBytes [n] = T5 at *
    obtain ⟨c0, c1, c2, c3, c4, c5, c6, c7, c8, c9, c10, c11, c12⟩ := hB10.cells
    clear c0 c1 c2 c3 c4 c5 c6 c7 c8 c9 c10 c12
    go_wp2_with fail
    clear c11
    go_loopw [8, 61] (fun _ s61 wr => ∃ i : Nat, i ≤ n ∧ s61 = .int .i64 i ∧ TextAt wr S (T5 ++ recsBytes (m.recs.take i)) ∧ Mod [S] w10 wr) (fun _ s61 _ => n - (intOf s61).toNat)
    case atStart => exact ⟨0, by omega, rfl, by simpa [recsBytes] using hS10, Mod.refl _ _⟩
    case round =>
      obtain ⟨i, hi, rfl, hT, hmr⟩ := hrel
      have hbr : Below w.heap.size w wr := Mod.fresh hbb10 hmr (by simp; omega)
      have hBr : MsgAt wr w.heap.size m a n c := Blk.mod hB10 hmr (by simp; omega)
      have hlen := recsBytes_len (m.recs.take i) (fun r hr => HF.out.small r (List.mem_of_mem_take hr))
      have htl : (m.recs.take i).length ≤ i := List.length_take_le _ _
      by_cases hlt : i < n
      · obtain ⟨x, g, o, hx, hmx, rfl, d0, d1, d2, d3⟩ := h.row hbr hlt
        obtain ⟨hk16, hv24, hlx⟩ := HF.out.rec_ x hmx
        have HN := Lib.hid (show T5 ++ recsBytes (m.recs.take i) ++ recBytes x = T5 ++ recsBytes (m.recs.take (i + 1)) by
          rw [List.take_add_one, hx, Option.toList_some, recsBytes_snoc, List.append_assoc])
        have hlenT : (T5 ++ recsBytes (m.recs.take i)).length ≤ 40000 := by rw [List.length_append]; omega
        clear hx hmx hlen htl hBr
        generalize T5 ++ recsBytes (m.recs.take i) = T at *
        go_upto_region 14 with fail
        have hX := Blk.new wr (recCells x) 43
        have hTa : TextAt (wr.alloc (.cells (recCells x).toArray 43)) S T := Blk.alloc hT _
        have hma : Mod [S] w10 (wr.alloc (.cells (recCells x).toArray 43)) := hmr.alloc _
        have HB := Lib.hid (show (wr.alloc (.cells (recCells x).toArray 43)) = wr.alloc (.cells #[.string ⟨x.key.toArray⟩, .int .u64 x.lsn, .bool x.del, .string ⟨x.val.toArray⟩] 43) from rfl)
        rw [HB.out] at hX hTa hma
        clear HB d0 d1 d2 d3 hT hmr hbr
        generalize wr.alloc (.cells #[.string ⟨x.key.toArray⟩, .int .u64 x.lsn, .bool x.del, .string ⟨x.val.toArray⟩] 43) = wq at *
        generalize wr.heap.size = X at *
        have hXlt := hX.lt
        have hSq := hTa.lt
        have HC := Lib.hid (show ∀ w', Below wq.heap.size wq w' → w'.cell? ⟨X, 0, none⟩ = some (.string ⟨x.key.toArray⟩) ∧ w'.cell? ⟨X, 1, none⟩ = some (.int .u64 x.lsn) ∧ w'.cell? ⟨X, 3, none⟩ = some (.string ⟨x.val.toArray⟩) ∧ w'.cell? ⟨S, 0, none⟩ = some (.string ⟨T.toArray⟩) ∧ w'.frozen? ⟨S, 0, none⟩ = false from fun w' hb => by
          have h1 := Blk.on hX hb
          have h2 : Blk w' S [.string ⟨T.toArray⟩] 9 := Blk.on hTa hb
          refine ⟨?_, ?_, ?_, ?_, Blk.free h2 0⟩
          · rw [h1.cell]; rfl
          · rw [h1.cell]; rfl
          · rw [h1.cell]; rfl
          · rw [h2.cell]; rfl)
        have q1 : (Wire.putText x.key).length ≤ 26 := by have := (Wire.put_length 9 x.key.length).2; unfold Wire.putText Wire.putNum; rw [List.length_append]; omega
        have q2 : (Wire.putNum x.lsn).length ≤ 10 := (Wire.put_length 9 _).2
        obtain ⟨T6, hT6⟩ : ∃ T6, T6 = T ++ Wire.putText x.key := ⟨_, rfl⟩
        obtain ⟨T7, hT7⟩ : ∃ T7, T7 = T6 ++ Wire.putNum x.lsn := ⟨_, rfl⟩
        obtain ⟨T8, hT8⟩ : ∃ T8, T8 = T7 ++ Wire.putText x.val := ⟨_, rfl⟩
        have HP1 := Lib.hid (show ∀ (wa : World), Below wq.heap.size wq wa → Calls Try.prog 21 #[.string ⟨T.toArray⟩, .string ⟨x.key.toArray⟩] wa fun e w' => e = .returned (.string ⟨T6.toArray⟩) ∧ Below wq.heap.size wq w' from
          fun wa hb => (putText_any T x.key wa (by omega)).mono fun e w' ⟨he, hw⟩ => ⟨by rw [hT6]; exact he, hb.on hw⟩)
        have HP2 := Lib.hid (show ∀ (wa : World), Below wq.heap.size wq wa → Calls Try.prog 20 #[.string ⟨T6.toArray⟩, .int .u64 x.lsn] wa fun e w' => e = .returned (.string ⟨T7.toArray⟩) ∧ Below wq.heap.size wq w' from
          fun wa hb => (putNum_any T6 x.lsn wa (by rw [hT6, List.length_append]; omega) (by unfold U64; omega)).mono fun e w' ⟨he, hw⟩ => ⟨by rw [hT7]; exact he, hb.on hw⟩)
        have HP3 := Lib.hid (show ∀ (wa : World), Below wq.heap.size wq wa → Calls Try.prog 21 #[.string ⟨T7.toArray⟩, .string ⟨x.val.toArray⟩] wa fun e w' => e = .returned (.string ⟨T8.toArray⟩) ∧ Below wq.heap.size wq w' from
          fun wa hb => (putText_any T7 x.val wa (by rw [hT7, hT6, List.length_append, List.length_append]; omega)).mono fun e w' ⟨he, hw⟩ => ⟨by rw [hT8]; exact he, hb.on hw⟩)
        have HT8 := Lib.hid (show T8 = T5 ++ recsBytes (m.recs.take (i + 1)) by rw [← HN.out, hT8, hT7, hT6]; unfold recBytes; simp)
        clear hT6 hT7 hT8 q1 q2 HN
        refine wp_region_settle_then 10 (Below wq.heap.size wq) (by kernel_rfl) (by kernel_rfl) (by kernel_rfl) (by kernel_rfl) (by kernel_rfl) (below_drew (Below.refl _ _)) ?_
        repeat (first
          | (refine settledL_not ?_ ?_
             · rfl
             simp only [Act.put, List.setIfInBounds_toArray, List.set_cons_zero, List.set_cons_succ])
          | (refine settledL_val (v := ?_) ?_ (fun w' hS => ?_) ?_
             rotate_left
             · rfl
             · obtain ⟨k0, k1, k2, k3, k4⟩ := HC.out w' hS
               go_simp
               with_reducible rfl
             simp only [Act.put, List.setIfInBounds_toArray, List.set_cons_zero, List.set_cons_succ])
          | (refine settledL_call (f := 21) (v := .string ⟨T6.toArray⟩) ?_ (fun w' hS => ?_) (fun w' hS => HP1.out w' hS) ?_
             · rfl
             · go_simp
             simp only [Act.put, List.setIfInBounds_toArray, List.set_cons_zero, List.set_cons_succ])
          | (refine settledL_call (f := 20) (v := .string ⟨T7.toArray⟩) ?_ (fun w' hS => ?_) (fun w' hS => HP2.out w' hS) ?_
             · rfl
             · go_simp
             simp only [Act.put, List.setIfInBounds_toArray, List.set_cons_zero, List.set_cons_succ])
          | (refine settledL_call (f := 21) (v := .string ⟨T8.toArray⟩) ?_ (fun w' hS => ?_) (fun w' hS => HP3.out w' hS) ?_
             · rfl
             · go_simp
             simp only [Act.put, List.setIfInBounds_toArray, List.set_cons_zero, List.set_cons_succ]))
        refine settledL_end (fun wy hS => ?_)
        obtain ⟨k0, k1, k2, k3, k4⟩ := HC.out wy hS
        refine seq_step (by rfl) (fun K hK => ?_)
        go_simp
        refine hK.out _ _ (seq_nil ?_)
        have hTz : TextAt (wy.setCell ⟨S, 0, none⟩ (.string ⟨T8.toArray⟩)) S T8 := Blk.set (Blk.on hTa hS) 0 _
        have hmz := (hma.thenBelow hS).setCell ⟨S, 0, none⟩ (.string ⟨T8.toArray⟩) (.inl (by simp))
        clear hK k0 k1 k2 k3 k4 HC HP1 HP2 HP3 hS
        go_wp2_with fail
        go_roundw
        case rel => exact ⟨i + 1, by omega, by go_num, by rw [← HT8.out]; exact hTz, hmz⟩
        case measure => simp [intOf]; omega
      · have hni : n ≤ i := by omega
        have HX := Lib.hid (show m.recs.take i = m.recs from List.take_of_length_le (by rw [HL.out]; omega))
        have hE := HF.out.err
        have hwe : IntKind.u64.wrap m.err = m.err := by rw [IntKind.wrap_u64]; omega
        rw [HX.out] at hT hlen
        have hle : (T5 ++ recsBytes m.recs).length ≤ 40000 := by rw [List.length_append]; rw [HL.out] at hlen; omega
        have HT11 := Lib.hid (show T5 ++ recsBytes m.recs ++ Wire.putNum m.err.toNat = bodyM m by
          unfold bodyM
          rw [HT10.out, HL.out]; simp)
        clear htl hlen HX HT10
        generalize T5 ++ recsBytes m.recs = T9 at *
        obtain ⟨c0, c1, c2, c3, c4, c5, c6, c7, c8, c9, c10, c11, c12⟩ := hBr.cells
        clear c0 c1 c2 c3 c4 c5 c6 c7 c8 c9 c10 c11
        obtain ⟨ee, hee⟩ : ∃ ee : Nat, m.err = ee := ⟨m.err.toNat, by omega⟩
        have HT12 := Lib.hid (show T9 ++ numsBytes [ee] = bodyM m by rw [← HT11.out, hee]; simp [numsBytes])
        have heb : ee ≤ 7 := by omega
        rw [hee] at c12 hwe
        clear hee hE HT11
        go_wp2_with fail
        have hne := nums_any wr.heap.size S 1 [ee] T9 (wr.alloc (.cells #[.int .u64 (ee : Int)] 22)) rfl (Blk.new wr [.int .u64 (ee : Int)] _) (Blk.alloc hT _) (by have := hT.lt; omega) (by
            intro x hx
            simp only [List.mem_cons, List.not_mem_nil, or_false] at hx
            subst hx; unfold U64; omega) (by omega) (by omega)
        refine hne.mono ?_
        clear hne
        rintro e w11 ⟨rfl, hS11, hm11⟩
        have hm11 := ((Mod.refl [S] wr).alloc _).trans hm11
        have hbb11 : Below w.heap.size w w11 := Mod.fresh hbr hm11 (by simp; omega)
        have hl11 : (T9 ++ numsBytes [ee]).length ≤ 50000 := by
          have := numsBytes_len [ee]
          rw [List.length_append]; simp at this; omega
        rw [HT12.out] at hS11 hl11
        have s11 : w11.cell? ⟨S, 0, none⟩ = some (.string ⟨(bodyM m).toArray⟩) := by unfold TextAt at hS11; rw [hS11.cell]; rfl
        clear c12 hwe hm11 hT
        go_wp2_with fail
        refine (seal_any (bodyM m) w11 (by unfold maxLen; omega)).mono ?_
        rintro e w12 ⟨rfl, hb12⟩
        go_wp2_with fail
        go_ret2
        rw [HE.out, HZ.out]
        exact ⟨rfl, hbb11.on hb12⟩
  · have hne : (((checkM m : Nat) : Int) != 0) = true := by simp; omega
    have HE := Lib.hid (show encM m = [] from if_neg hck)
    go_wp2_with fail
    go_ret2
    rw [HE.out]
    exact ⟨rfl, hbb2⟩
end Go.Proofs.Ytnijijcbdajodaa
