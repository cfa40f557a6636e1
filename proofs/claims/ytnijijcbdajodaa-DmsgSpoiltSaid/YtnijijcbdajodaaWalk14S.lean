/-
  The walk of DmsgSpoilt.
-/
import Derived.Test.YtnijijcbdajodaaHelp14
import Derived.RegionTactic
namespace Go.Proofs.Ytnijijcbdajodaa
set_option linter.unusedVariables false
set_option linter.unusedSimpArgs false
open Go.RowKit

set_option maxRecDepth 100000 in
set_option maxHeartbeats 2000000 in
theorem spoilt_any (m : Msg) (a : Option Addr) (n c : Nat) (k : Nat) (d : UInt8) (w : World) (h : RecsAt w a n c m.recs) (hok : m.ok) (hk : k ≤ 65535) :
    Calls Try.prog 6 #[msgV m a n c, .int .u16 k, .int .u8 (d.toNat : Int)] w fun e w' => e = .returned (.bool true) ∧ Below w.heap.size w w' := by
  have hd256 := d.toNat_lt
  have hE := MsgAt.new w m a n c
  have hb0 := (Below.refl w.heap.size w).alloc (Nat.le_refl _) (msgObj m a n c)
  have hr0 := h.on hb0
  have hold : ∀ g o, a = some ⟨g, o, none⟩ → 0 < n → g < w.heap.size := fun g o e hn => h.old hn g o e
  unfold msgObj at hE hb0 hr0
  unfold msgV
  go_enter Try.func6, Try.ntmps6
  go_wp2_with fail
  generalize w.alloc (.cells #[.int .i64 m.kind, .int .u64 m.te, .int .u64 m.di, .int .u64 m.id, .int .u64 m.lsn, .int .u64 m.low, .string ⟨m.key.toArray⟩, .string ⟨m.hi.toArray⟩, .bool m.del, .bool m.found, .string ⟨m.val.toArray⟩, .slice a n c, .int .i64 m.err] 26) = w0 at *
  clear h
  refine (works_any w0).mono ?_
  rintro e w1 ⟨rfl, hb1⟩
  have hE1 : MsgAt w1 w.heap.size m a n c := Blk.on hE hb1
  have hr1 := hr0.on hb1
  have hbb1 := hb0.on hb1
  clear hE hb0 hr0 hb1
  generalize hm : min n 505 = q
  have hm1 : q ≤ n := by omega
  have hm2 : q ≤ 505 := by omega
  have hnc := hr1.cap
  have hnm := hr1.max
  have c11 := hE1.cells.2.2.2.2.2.2.2.2.2.2.2.1
  have z11 := Blk.free hE1 11
  have hmin : ∀ w', (Builtin.min_ #[3, 3] 3 #[.int .i64 n, .int .i64 505]).run Try.prog w' = .ok (.int .i64 q) w' := by
    intro w'
    rw [run_min_int2, show (if (505 : Int) < n then (505 : Int) else n) = q from by split <;> omega]
  have hE2 : MsgAt (w1.setCell ⟨w.heap.size, 11, none⟩ (.slice a q c)) w.heap.size (m.cut q) a q c := Blk.set hE1 11 _
  have hbb2 := hbb1.setCell (p := ⟨w.heap.size, 11, none⟩) (Nat.le_refl _) (.slice a q c)
  have hr2 : RecsAt (w1.setCell ⟨w.heap.size, 11, none⟩ (.slice a q c)) a q c (m.cut q).recs := (hr1.take q hm1).other0 ⟨w.heap.size, 11, none⟩ (.slice a q c) (fun hn g o e => by
    have := hold g o e (by omega)
    show g ≠ w.heap.size
    omega)
  have hok2 := hok.cut q
  clear hE1 hr1 hbb1 hm
  go_upto_region 4 with fail
  generalize w1.setCell ⟨w.heap.size, 11, none⟩ (.slice a q c) = w2 at *
  clear c11 z11 hold hmin hok
  obtain ⟨c0, c1, c2, c3, c4, c5, c6, c7, c8, c9, c10, c11, c12⟩ := hE2.cells
  have hen := encode_any (m.cut q) a q c w2 hr2 hok2
  unfold msgV at hen
  have Hen := Lib.hid hen
  clear hen
  go_wp2_with fail
  refine Hen.out.mono ?_
  rintro e w3 ⟨rfl, hb3⟩
  have hbb3 := hbb2.on hb3
  clear c0 c1 c2 c3 c4 c5 c6 c7 c8 c9 c10 c11 c12 Hen hb3 hbb2 hr2 hE2
  by_cases hck : checkM (m.cut q) = 0
  · have hle := enc_len14 hck
    have hpos : 0 < (encM (m.cut q)).length := by unfold encM; rw [if_pos hck, seal_length]; omega
    have hsp := read_spoilt14 hck
    rw [hck]
    generalize encM (m.cut q) = s at *
    by_cases hd : d.toNat = 0
    · have hdi : ((d.toNat : Int) == 0) = true := by simp [hd]
      clear hsp
      go_wp2_with fail
      refine bodyPost_ret (results_tmp rfl _ _ _) rfl ⟨rfl, hbb3⟩
    · have hdi : ((d.toNat : Int) == 0) = false := by simp; omega
      obtain ⟨cap, w4, hconv, hrow, hb4, hsz, hcap⟩ := conv_bytes (P := Try.prog) w3 9 38 5 s Try.underlying9 Try.underlying38 Try.underlying5
      have Hsz := Lib.hid hsz
      have HSP := Lib.hid hsp
      clear hsz hsp
      obtain ⟨p, hp⟩ : ∃ p, k % s.length = p := ⟨_, rfl⟩
      have hrem : Int.tmod (k : Int) (s.length : Int) = (p : Int) := by rw [← Int.ofNat_tmod, hp]
      have hql : p < s.length := by rw [← hp]; exact Nat.mod_lt k hpos
      have hne : ¬ ((s.length : Int) = 0) := by omega
      have HQ := Lib.hid hp
      clear hp
      go_upto_region 8 with fail
      obtain ⟨u, hu⟩ : ∃ u, s[p] = u := ⟨_, rfl⟩
      obtain ⟨v, hv⟩ : ∃ v, u ^^^ d = v := ⟨_, rfl⟩
      have hrun := HSP.out p v hql (by rw [hu, ← hv]; exact xor_other u d hd)
      have hcell := hrow.byte hql
      rw [hu] at hcell
      have hfree := hrow.byteFree hql
      have hrow2 := hrow.setByte p v
      have hx := xor8 u d
      rw [hv] at hx
      have hstr := conv_string (P := Try.prog) hrow2 38 9 cap Try.underlying38 Try.underlying5 Try.underlying9
      rw [List.length_set] at hstr
      have HR := Lib.hid hrun
      have HB4 := Lib.hid hb4
      clear hu hv hrun hrow hconv hrow2 hb4
      go_wp2_with fail
      refine (decode_any _ _ (by rw [List.length_set]; omega)).mono ?_
      rw [HR.out]
      rintro e w5 ⟨hb5, rfl⟩
      unfold msgV zeroMsg
      go_wp2_with fail
      refine bodyPost_ret (results_tmp rfl _ _ _) rfl ⟨rfl, ?_⟩
      have hb6 := ((hbb3.on HB4.out).setCell (p := ⟨w3.heap.size, p, none⟩) hbb3.size (.int .u8 (v.toNat : Int))).on hb5
      exact hb6.alloc hb6.size _
  · have hci : ((checkM (m.cut q) : Int) != 0) = true := by simp; omega
    go_wp2_with fail
    refine bodyPost_ret (results_tmp rfl _ _ _) rfl ⟨rfl, hbb3⟩
end Go.Proofs.Ytnijijcbdajodaa
