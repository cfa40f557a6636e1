/-
  The law CrcJoins, walked: turning the same bits of two texts turns the same bits of their sums. No condition.
-/
import Derived.Test.YtlmojhhmfidmaaaCrc3
import Derived.Test.YtlmojhhmfidmaaaCrcBits
import Derived.Test.YtlmojhhmfidmaaaMem
import Derived.RegionTactic
import Derived.OpenShut
import Derived.Deep.DeepCutAuto
import Derived.Deep.RegionWith
import Derived.Deep.RegionHeld3
namespace Go.Proofs.Ytlmojhhmfidmaaa
open Go.RowKit

def IsRow (k : IntKind) (w : World) (a : Option Addr) (len cap : Nat) (zs : List Int) : Prop :=
  (a = none ∧ len = 0 ∧ cap = 0 ∧ zs = []) ∨
  ∃ x, a = some x ∧ len ≤ cap ∧ cap ≤ maxLen ∧ zs.length = cap ∧ (∀ i, i < zs.length → w.cell? (x.add i) = some (.int k (zs.getD i 0))) ∧ ∀ n ∈ zs, (Lit.int k n).wf = true

theorem run_min4 {P : Program} (ts : Array TypeId) (t : TypeId) (k k' k'' k3 : IntKind) (x y z u : Int) (w : World) :
    (Builtin.min_ ts t #[.int k x, .int k' y, .int k'' z, .int k3 u]).run P w = .ok (.int k (min (min (min x y) z) u)) w := by
  have e : ∀ a b : Int, min a b = if b < a then b else a := by intro a b; omega
  simp only [e]
  rfl

/-- Two rows of bytes of their own, from block B on. -/
def TwoRows (B : Nat) (n : Nat) (X Y : List UInt8) (w0 : World) (s8 s9 : Value) (wx : World) : Prop :=
  ∃ bx by' cx cy, s8 = .slice (some ⟨bx, 0, none⟩) n cx ∧ s9 = .slice (some ⟨by', 0, none⟩) n cy ∧ bx ≠ by' ∧ B ≤ bx ∧ B ≤ by' ∧ n ≤ cx ∧ n ≤ cy ∧
    RowAt wx bx 5 (X.map bv) ∧ RowAt wx by' 5 (Y.map bv) ∧ Below B w0 wx

/-- The block that '[]byte(s)' makes. -/
theorem row_made (w : World) (X : List UInt8) (c : Nat) : RowAt (w.alloc (.cells (bytesRow ⟨X.toArray⟩ c) 5 ((bytesRow ⟨X.toArray⟩ c).size, (bytesRow ⟨X.toArray⟩ c).size + 1))) w.heap.size 5 (X.map bv) := by
  refine ⟨bytesRow ⟨X.toArray⟩ c, (bytesRow ⟨X.toArray⟩ c).size, (bytesRow ⟨X.toArray⟩ c).size + 1, ?_, .inr ?_, ?_⟩
  · show (w.heap.push _)[w.heap.size]? = _
    simp
  · simp [bytesRow]
  · have e2 : (bytesRow ⟨X.toArray⟩ c).toList = X.map bv ++ List.replicate (c - (ByteArray.mk X.toArray).size) (.int .u8 0) := by
      simp [bytesRow]; intro _ _; rfl
    rw [e2, List.take_left' rfl]
theorem two_a (w : World) (n cx cy : Nat) (X Y : List UInt8) (hx : n ≤ cx) (hy : n ≤ cy) :
    TwoRows w.heap.size n X Y w (.slice (some ⟨w.heap.size, 0, none⟩) n cx) (.slice (some ⟨w.heap.size + 1, 0, none⟩) n cy)
      (((w.alloc (.cells (bytesRow ⟨X.toArray⟩ cx) 5 ((bytesRow ⟨X.toArray⟩ cx).size, (bytesRow ⟨X.toArray⟩ cx).size + 1))).alloc (.cells (bytesRow ⟨Y.toArray⟩ cy) 5 ((bytesRow ⟨Y.toArray⟩ cy).size, (bytesRow ⟨Y.toArray⟩ cy).size + 1)))) := by
  have h2 := row_made (w.alloc (.cells (bytesRow ⟨X.toArray⟩ cx) 5 ((bytesRow ⟨X.toArray⟩ cx).size, (bytesRow ⟨X.toArray⟩ cx).size + 1))) Y cy
  have e : (w.alloc (.cells (bytesRow ⟨X.toArray⟩ cx) 5 ((bytesRow ⟨X.toArray⟩ cx).size, (bytesRow ⟨X.toArray⟩ cx).size + 1))).heap.size = w.heap.size + 1 := by simp
  rw [e] at h2
  exact ⟨w.heap.size, w.heap.size + 1, cx, cy, rfl, rfl, by omega, Nat.le_refl _, by omega, hx, hy, (row_made w X cx).alloc _, h2, ((Below.refl _ _).alloc (Nat.le_refl _) _).alloc (by simp) _⟩
theorem two_b (w : World) (n cx cy : Nat) (X Y : List UInt8) (hx : n ≤ cx) (hy : n ≤ cy) :
    TwoRows w.heap.size n X Y w (.slice (some ⟨w.heap.size + 1, 0, none⟩) n cx) (.slice (some ⟨w.heap.size, 0, none⟩) n cy)
      (((w.alloc (.cells (bytesRow ⟨Y.toArray⟩ cy) 5 ((bytesRow ⟨Y.toArray⟩ cy).size, (bytesRow ⟨Y.toArray⟩ cy).size + 1))).alloc (.cells (bytesRow ⟨X.toArray⟩ cx) 5 ((bytesRow ⟨X.toArray⟩ cx).size, (bytesRow ⟨X.toArray⟩ cx).size + 1)))) := by
  obtain ⟨b1, b2, c1, c2, h1, h2, hne, hB1, hB2, hc1, hc2, hr1, hr2, hb⟩ := two_a w n cy cx Y X hy hx
  exact ⟨b2, b1, c2, c1, h2, h1, hne.symm, hB2, hB1, hc2, hc1, hr2, hr1, hb⟩
theorem TwoRows.drew {B n : Nat} {X Y : List UInt8} {w0 wx : World} {s8 s9 : Value} (h : TwoRows B n X Y w0 s8 s9 wx) : TwoRows B n X Y w0 s8 s9 wx.drew := by
  obtain ⟨b1, b2, c1, c2, h1, h2, hne, hB1, hB2, hc1, hc2, hr1, hr2, hb⟩ := h
  exact ⟨b1, b2, c1, c2, h1, h2, hne, hB1, hB2, hc1, hc2, hr1, hr2, hb.drew⟩

/-- Two rows of bytes stand; since w0 only new memory was written. -/
structure Stand (w0 : World) (bx by' n cx cy : Nat) (X Y : List UInt8) (w : World) : Prop where
  rx : RowAt w bx 5 (X.map bv)
  ry : RowAt w by' 5 (Y.map bv)
  lx : X.length = n
  ly : Y.length = n
  bel : Below w0.heap.size w0 w
theorem Stand.drew {w0 : World} {bx by' n cx cy : Nat} {X Y : List UInt8} {w : World} (h : Stand w0 bx by' n cx cy X Y w) : Stand w0 bx by' n cx cy X Y w.drew := ⟨h.rx, h.ry, h.lx, h.ly, h.bel.drew⟩
theorem Stand.on {w0 : World} {bx by' n cx cy : Nat} {X Y : List UInt8} {w w' : World} (h : Stand w0 bx by' n cx cy X Y w) (hb : Below w.heap.size w w') : Stand w0 bx by' n cx cy X Y w' :=
  ⟨h.rx.on hb, h.ry.on hb, h.lx, h.ly, h.bel.on hb⟩
theorem Stand.cx {w0 : World} {bx by' n cx cy : Nat} {X Y : List UInt8} {w : World} (h : Stand w0 bx by' n cx cy X Y w) : (convert 30 9 (.slice (some ⟨bx, 0, none⟩) n cx)).run Try.prog w = .ok (.string ⟨X.toArray⟩) w := by
  have := conv_string (P := Try.prog) h.rx 30 9 cx Try.underlying30 Try.underlying5 Try.underlying9
  rwa [h.lx] at this
theorem Stand.cy {w0 : World} {bx by' n cx cy : Nat} {X Y : List UInt8} {w : World} (h : Stand w0 bx by' n cx cy X Y w) : (convert 30 9 (.slice (some ⟨by', 0, none⟩) n cy)).run Try.prog w = .ok (.string ⟨Y.toArray⟩) w := by
  have := conv_string (P := Try.prog) h.ry 30 9 cy Try.underlying30 Try.underlying5 Try.underlying9
  rwa [h.ly] at this

theorem isRow_at {w : World} {a : Option Addr} {len cap : Nat} {zs : List Int} (h : IsRow .u8 w a len cap zs) (hl : 0 < len) :
    ∃ b off, a = some ⟨b, off, none⟩ ∧ b < w.heap.size ∧ len ≤ zs.length ∧ (∀ i, i < len → w.cell? ⟨b, off + i, none⟩ = some (.int .u8 ((UInt8.ofNat (zs.getD i 0).toNat).toNat : Int))) := by
  rcases h with ⟨_, rfl, _⟩ | ⟨x, rfl, hlc, hm, hz, hc, hwf⟩
  · omega
  · have h0 := hc 0 (by omega)
    obtain ⟨b, off, sp⟩ := x
    have hs : sp = none := by
      cases sp with
      | none => rfl
      | some s => simp [Addr.add, World.cell?] at h0; split at h0 <;> simp at h0
    subst hs
    refine ⟨b, off, rfl, ?_, by omega, ?_⟩
    · simp only [Addr.add, if_pos, World.cell?] at h0
      rcases Nat.lt_or_ge b w.heap.size with h | h
      · exact h
      · rw [Array.getElem?_eq_none h] at h0; simp at h0
    · intro i hi
      have hp : (⟨b, off, none⟩ : Addr).add i = ⟨b, off + i, none⟩ := by unfold Addr.add; split <;> simp_all
      rw [← hp, hc i (by omega)]
      have hmem : zs.getD i 0 ∈ zs := by
        have : i < zs.length := by omega
        simp only [List.getD, List.getElem?_eq_getElem this, Option.getD_some]; exact List.getElem_mem this
      have := bounds_u8 (hwf _ hmem)
      rw [UInt8.toNat_ofNat']
      congr 2
      omega

theorem xor8_int (c z : UInt8) : bits BinOp.xor .u8 (c.toNat : Int) (z.toNat : Int) = ((c ^^^ z).toNat : Int) := by
  rw [u8_xor_nat _ _ c.toNat_lt z.toNat_lt, UInt8.toNat_xor]

/-- The bits in which two texts differ. -/
def Diff (n : Nat) (X Y x y : List UInt8) : Prop := ∀ j, j < 8 * n → (Bits.bit x j ^^ Bits.bit y j) = (Bits.bit X j ^^ Bits.bit Y j)
theorem Diff.both {n k : Nat} {X Y x y : List UInt8} (h : Diff n X Y x y) (hx : x.length = n) (hy : y.length = n) (hk : k < n) (z : UInt8) :
    Diff n X Y (x.set k (x[k] ^^^ z)) (y.set k (y[k] ^^^ z)) := by
  intro j hj
  rw [← h j hj]
  unfold Bits.bit
  by_cases e : j / 8 = k
  · subst e
    simp only [List.getD, List.getElem?_set_self (by omega : j / 8 < x.length), List.getElem?_set_self (by omega : j / 8 < y.length), List.getElem?_eq_getElem (by omega : j / 8 < x.length), List.getElem?_eq_getElem (by omega : j / 8 < y.length), Option.getD_some, UInt8.toNat_xor, Nat.testBit_xor]
    cases x[j / 8].toNat.testBit (j % 8) <;> cases y[j / 8].toNat.testBit (j % 8) <;> cases z.toNat.testBit (j % 8) <;> rfl
  · simp only [List.getD]
    rw [List.getElem?_set_ne (by omega), List.getElem?_set_ne (by omega)]

/-- Sum, where two rows of bytes stand. -/
theorem sum_rows (l : List UInt8) (w : World) (hs : l.length ≤ maxLen) (w0 : World) (bx by' n cx cy : Nat) (X Y : List UInt8) (h : Stand w0 bx by' n cx cy X Y w) :
    Calls Try.prog 9 #[.string ⟨l.toArray⟩] w fun e w' => e = .returned (.int .u32 (sumI l)) ∧ Stand w0 bx by' n cx cy X Y w' ∧
      (convert 30 9 (.slice (some ⟨bx, 0, none⟩) n cx)).run Try.prog w' = .ok (.string ⟨X.toArray⟩) w' ∧ (convert 30 9 (.slice (some ⟨by', 0, none⟩) n cy)).run Try.prog w' = .ok (.string ⟨Y.toArray⟩) w' := by
  refine (sumL_any l w hs).mono ?_
  rintro e w' ⟨rfl, hb⟩
  exact ⟨rfl, h.on hb, (h.on hb).cx, (h.on hb).cy⟩

set_option maxHeartbeats 1000000 in
theorem joins_walk (a0 : ByteArray) (a1 : ByteArray) (a2 : Option Addr) (len2 cap2 : Nat) (z2 : List Int) (w : World) (w0 : a0.size ≤ maxLen) (w1 : a1.size ≤ maxLen) (w2 : IsRow .u8 w a2 len2 cap2 z2) :
    Calls Try.prog 7 #[.string a0, .string a1, .slice a2 len2 cap2] w fun e w' => e = .returned (.bool true) ∧ Below w.heap.size w w' := by
  unfold maxLen at w0 w1
  obtain ⟨⟨l⟩⟩ := a0
  obtain ⟨⟨m⟩⟩ := a1
  have hlen : len2 ≤ 9223372036854775807 := by
    rcases w2 with ⟨_, rfl, _⟩ | ⟨_, _, h, h2, _⟩
    · omega
    · unfold maxLen at h2; omega
  have W2 := Lib.hid w2
  clear w2
  go_enter Try.func7, Try.ntmps7
  go_wp2_with fail
  refine (works_any _).mono ?_
  rintro e wb ⟨rfl, hb1⟩
  obtain ⟨n, hn, hn1, hn2, hn3, hn4⟩ : ∃ n : Nat, min (min (min (l.length : Int) m.length) len2) 2000 = n ∧ n ≤ l.length ∧ n ≤ m.length ∧ n ≤ len2 ∧ n ≤ 2000 :=
    ⟨min (min (min l.length m.length) len2) 2000, by omega, by omega, by omega, by omega, by omega⟩
  have hmin : ∀ w', (Builtin.min_ #[3, 3, 3, 3] 3 #[.int .i64 l.length, .int .i64 m.length, .int .i64 len2, .int .i64 2000]).run Try.prog w' = .ok (.int .i64 n) w' := by
    intro w'; rw [run_min4, hn]
  clear hn
  have c1 := fun (w' : World) (x : List UInt8) => run_bytes_of_string (P := Try.prog) w' 9 30 5 ⟨x.toArray⟩ Try.underlying9 Try.underlying30 Try.underlying5
  go_wp2_with fail
  clear hmin
  have g0 := fun (x : List UInt8) => extract_list x 0 n
  go_upto_region 4 with fail
  go_cut [8, 9] (fun s8 s9 wx => TwoRows wb.heap.size n (l.take n) (m.take n) wb s8 s9 wx)
  case first =>
    go_region
    · go_wp2_with fail
      go_meet
      exact (two_a wb n _ _ _ _ (grownCap_ge ..) (grownCap_ge ..)).drew.drew.drew
    · go_wp2_with fail
      go_meet
      exact (two_b wb n _ _ _ _ (grownCap_ge ..) (grownCap_ge ..)).drew.drew.drew
  case rest =>
    clear c1 g0
    obtain ⟨bx, by', cx, cy, rfl, rfl, hne, hBx, hBy, hcx, hcy, hrx, hry, hbw⟩ := hcut
    obtain ⟨X, hX⟩ : ∃ X, l.take n = X := ⟨_, rfl⟩
    obtain ⟨Y, hY⟩ : ∃ Y, m.take n = Y := ⟨_, rfl⟩
    have hXl : X.length = n := by rw [← hX]; simp; omega
    have hYl : Y.length = n := by rw [← hY]; simp; omega
    rw [hX] at hrx
    rw [hY] at hry
    clear hX hY
    have hst : Stand wb bx by' n cx cy X Y wc := ⟨hrx, hry, hXl, hYl, hbw⟩
    have hXm : X.length ≤ maxLen := by rw [hXl]; unfold maxLen; omega
    have hYm : Y.length ≤ maxLen := by rw [hYl]; unfold maxLen; omega
    clear hrx hry hbw hXl hYl
    go_upto_region 5 with fail
    go_cut [10] (fun s10 wx => s10 = .int .u32 (bits BinOp.xor .u32 (sumI X) (sumI Y)) ∧ Stand wb bx by' n cx cy X Y wx)
    case first =>
      have hc1 := hst.drew.cx
      have hc2 := hst.drew.cy
      go_region_with (go_at_call 9; (first | (with_reducible refine (sum_rows X _ hXm wb bx by' n cx cy X Y ?_).mono ?_) | (with_reducible refine (sum_rows Y _ hYm wb bx by' n cx cy X Y ?_).mono ?_)); (first | assumption | exact hst.drew); rintro e w' ⟨rfl, hst', hc1', hc2'⟩)
      all_goals
        go_wp2_with fail
        go_meet
        exact ⟨rfl, by assumption⟩
    case rest =>
      clear hst
      rename_i wc0 _
      obtain ⟨rfl, hst⟩ := hcut
      go_wp2_with fail
      go_loopw [11] (fun i wr => ∃ (k : Nat) (x y : List UInt8), k ≤ n ∧ i = .int .i64 k ∧ Stand wb bx by' n cx cy x y wr ∧ Diff n X Y x y) (fun i _ => n - (intOf i).toNat)
      case atStart => exact ⟨0, X, Y, Nat.zero_le _, rfl, hst, fun _ _ => rfl⟩
      case round =>
        obtain ⟨k, x, y, hk, rfl, hs, hd⟩ := hrel
        by_cases hlt : k < n
        · obtain ⟨bz, oz, rfl, hbz, hzl, hz⟩ := isRow_at W2.out (by omega)
          have hlx : k < x.length := by rw [hs.lx]; exact hlt
          have hly : k < y.length := by rw [hs.ly]; exact hlt
          have hcz : wr.cell? ⟨bz, oz + k, none⟩ = some (.int .u8 ((UInt8.ofNat (z2.getD k 0).toNat).toNat : Int)) := by
            have h1 := hs.bel.cell (p := ⟨bz, oz + k, none⟩) (by have := hb1.size; simp; omega)
            have h2 := hb1.cell (p := ⟨bz, oz + k, none⟩) (by simp; omega)
            rw [h1, h2]; exact hz k (by omega)
          have hcx := hs.rx.byte hlx
          have hcy := hs.ry.byte hly
          have hfx := hs.rx.byteFree hlx
          have hfy := hs.ry.byteFree hly
          have hsx := Lib.hid (fun c => hs.rx.setByte k c)
          have hsy := Lib.hid (fun c v => (hs.ry.other ⟨bx, k, none⟩ v hne.symm).setByte k c)
          have hnext := Lib.hid (fun z => hd.both hs.lx hs.ly hlt z)
          have HS := Lib.hid hs
          generalize x[k] = c at *
          generalize y[k] = d at *
          generalize UInt8.ofNat (z2.getD k 0).toNat = z at *
          have hz2 := Lib.hid hz
          clear hs hd hz
          have hbz2 : bz ≠ bx := by have := hb1.size; omega
          have hcy2 : ∀ v, (wr.setCell ⟨bx, k, none⟩ v).cell? ⟨by', k, none⟩ = some (.int .u8 (d.toNat : Int)) := fun v => by
            rw [World.cell?_of_block (Below.heap_setCell wr ⟨bx, k, none⟩ v by' hne.symm)]; exact hcy
          have hcz2 : ∀ v, (wr.setCell ⟨bx, k, none⟩ v).cell? ⟨bz, oz + k, none⟩ = some (.int .u8 (z.toNat : Int)) := fun v => by
            rw [World.cell?_of_block (Below.heap_setCell wr ⟨bx, k, none⟩ v bz hbz2)]; exact hcz
          have hfy2 : ∀ v, (wr.setCell ⟨bx, k, none⟩ v).frozen? ⟨by', k, none⟩ = false := fun v => by
            rw [World.frozen?_of_block (Below.heap_setCell wr ⟨bx, k, none⟩ v by' hne.symm)]; exact hfy
          go_wp2_with fail
          go_region
          go_wp2_with fail
          go_region
          go_wp2_with fail
          go_roundw
          case rel =>
            refine ⟨k + 1, x.set k (c ^^^ z), y.set k (d ^^^ z), by omega, by go_num, ?_, hnext.out z⟩
            rw [xor8_int, xor8_int]
            have hb2 := hb1.size
            have hb3 := HS.out.bel
            refine ⟨((hsx.out _).other _ _ (by simpa using hne)).drew.drew, (hsy.out _ _).drew.drew, by rw [List.length_set]; exact HS.out.lx, by rw [List.length_set]; exact HS.out.ly, ?_⟩
            exact ((hb3.setCell (by simpa using hBx) _).setCell (by simpa using hBy) _).drew.drew
          case measure => simp [intOf]; omega
        · obtain rfl : k = n := by omega
          have hlaw := Bits.sumI_join X Y x y (by rw [hst.lx, hst.ly]) (by rw [hs.lx, hst.lx]) (by rw [hs.ly, hst.ly]) (by rw [hst.lx]; exact hd)
          have HL := Lib.hid hlaw
          have hxm : x.length ≤ maxLen := by rw [hs.lx]; unfold maxLen; omega
          have hym : y.length ≤ maxLen := by rw [hs.ly]; unfold maxLen; omega
          clear hlaw hst hd
          go_wp2_with fail
          go_upto_region 11 with fail
          have hc1 := hs.drew.cx
          have hc2 := hs.drew.cy
          go_region_with (go_at_call 9; (first | (with_reducible refine (sum_rows x _ hxm wb bx by' k cx cy x y ?_).mono ?_) | (with_reducible refine (sum_rows y _ hym wb bx by' k cx cy x y ?_).mono ?_)); (first | assumption | exact hs.drew); rintro e w' ⟨rfl, hst', hc1', hc2'⟩)
          all_goals
            go_wp2_with fail
            go_ret
            refine ⟨?_, hb1.on (by have h := hst'.bel; exact h)⟩
            show Ending.returned (Value.bool (bits BinOp.xor .u32 (sumI x) (sumI y) == bits BinOp.xor .u32 (sumI X) (sumI Y))) = _
            rw [HL.out, beq_self_eq_true]
end Go.Proofs.Ytlmojhhmfidmaaa
