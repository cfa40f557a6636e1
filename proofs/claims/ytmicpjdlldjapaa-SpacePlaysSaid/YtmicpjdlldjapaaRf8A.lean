/-
  The document's space: how it stands in memory; its New, Live, Empty, Victim. No condition.
-/
import Derived.Test.YtmicpjdlldjapaaSpD
namespace Go.Proofs.Ytmicpjdlldjapaa
set_option linter.unusedVariables false
set_option linter.unusedSimpArgs false
open Go.RowKit

/-- The document's space stands in block r, its list in v (from block B on). -/
structure RAt (w : World) (B r : Nat) (v : Value) (S : Sp) : Prop where
  head : Blk w r [.int .i64 S.segs, .int .i64 S.per, v, .int .i64 S.now, .int .i64 S.mark] 58
  own : w.ownsRow B 31 3 v S.ls.length (locsCells S.ls)
  lt : r < B
theorem RAt.mod {T : List Nat} {w w' : World} {B r : Nat} {v : Value} {S : Sp} (h : RAt w B r v S) (hm : Mod T w w') (hr : r ∉ T) (hv : ∀ x ∈ T, v.ownBlock ≠ some x) : RAt w' B r v S :=
  ⟨h.head.mod hm hr, ownsRow_mod h.own hm hv, h.lt⟩
theorem RAt.on {w w' : World} {B r : Nat} {v : Value} {S : Sp} (h : RAt w B r v S) (hb : Below w.heap.size w w') : RAt w' B r v S := h.mod (T := []) (Mod.of_below hb) (by simp) (by simp)
theorem RAt.cells {w : World} {B r : Nat} {v : Value} {S : Sp} (h : RAt w B r v S) :
    w.cell? ⟨r, 0, none⟩ = some (.int .i64 S.segs) ∧ w.cell? ⟨r, 1, none⟩ = some (.int .i64 S.per) ∧ w.cell? ⟨r, 2, none⟩ = some v ∧ w.cell? ⟨r, 3, none⟩ = some (.int .i64 S.now) ∧ w.cell? ⟨r, 4, none⟩ = some (.int .i64 S.mark) := by
  refine ⟨?_, ?_, ?_, ?_, ?_⟩ <;> (rw [h.head.cell]; rfl)

set_option maxHeartbeats 1000000 in
theorem rnew_any (segs per : Nat) (hs : 2 ≤ segs ∧ segs ≤ 64) (hp : 1 ≤ per ∧ per ≤ 64) (w : World) : Calls Try.prog 9 #[.int .i64 segs, .int .i64 per] w fun e w' =>
    e = .returned (.pointer (some ⟨w.heap.size, 0, none⟩)) ∧ RAt w' (w.heap.size + 1) w.heap.size (.slice none 0 0) (Sp.new segs per) ∧ Below w.heap.size w w' ∧ w'.heap.size = w.heap.size + 1 := by
  have hH : Blk (w.alloc (.cells #[.int .i64 segs, .int .i64 per, .slice none 0 0, .int .i64 (-1), .int .i64 0] 58)) w.heap.size [.int .i64 segs, .int .i64 per, .slice none 0 0, .int .i64 (-1), .int .i64 0] 58 := Blk.new _ _ _
  have hb := (Below.refl w.heap.size w).alloc (Nat.le_refl _) (.cells #[.int .i64 segs, .int .i64 per, .slice none 0 0, .int .i64 (-1), .int .i64 0] 58)
  go_enter Try.func9, Try.ntmps9
  go_wp2_with fail
  go_ret
  exact ⟨rfl, ⟨hH, World.ownsRow_nil _ _ _ _, Nat.lt_succ_self _⟩, hb, by simp⟩
set_option maxHeartbeats 1000000 in
theorem rnew_none (segs per : Int) (h : segs < 2 ∨ 64 < segs ∨ per < 1 ∨ 64 < per) (w : World) : Calls Try.prog 9 #[.int .i64 segs, .int .i64 per] w fun e w' => e = .returned (.pointer none) ∧ w = w' := by
  by_cases h1 : segs < 2
  · go_enter Try.func9, Try.ntmps9
    go_wp2_with fail
    go_ret
    exact ⟨rfl, rfl⟩
  · by_cases h2 : 64 < segs
    · go_enter Try.func9, Try.ntmps9
      go_wp2_with fail
      go_ret
      exact ⟨rfl, rfl⟩
    · by_cases h3 : per < 1
      · go_enter Try.func9, Try.ntmps9
        go_wp2_with fail
        go_ret
        exact ⟨rfl, rfl⟩
      · have h4 : 64 < per := by omega
        go_enter Try.func9, Try.ntmps9
        go_wp2_with fail
        go_ret
        exact ⟨rfl, rfl⟩

/-- How many sectors of a segment live, of any number. -/
def liveI (ls : List Pc) (seg : Int) : Nat := if 0 ≤ seg then liveN ls seg.toNat else 0
theorem liveI_step (ls : List Pc) (k : Nat) (p : Pc) (hp : ls[k]? = some p) (seg : Int) : liveI (ls.take (k + 1)) seg = liveI (ls.take k) seg + if (p.seg : Int) = seg then p.n else 0 := by
  unfold liveI
  have : ls.take (k + 1) = ls.take k ++ [p] := by rw [List.take_add_one, hp]; rfl
  rw [this]
  by_cases h : 0 ≤ seg
  · rw [if_pos h, if_pos h, liveN_append]
    by_cases e : p.seg = seg.toNat
    · rw [if_pos e, if_pos (by omega)]
    · rw [if_neg e, if_neg (by omega)]
  · rw [if_neg h, if_neg h, if_neg (by omega)]
theorem liveI_eq {S : Sp} (h : S.Good) (seg : Int) : liveI S.ls seg = S.liveOf seg := by
  unfold liveI Sp.liveOf
  by_cases h0 : 0 ≤ seg
  · rw [if_pos h0]
    by_cases h1 : seg < S.segs
    · rw [if_pos ⟨h0, h1⟩]
    · rw [if_neg (by omega)]
      exact (liveN_pos h.pos _).2 (fun p hp e => by have := (h.inv.fit p hp).1; omega)
  · rw [if_neg h0, if_neg (by omega)]
theorem liveI_le {S : Sp} (h : S.Good) (hc : S.cnt < 10000) (k : Nat) (seg : Int) : liveI (S.ls.take k) seg ≤ 640000 := by
  unfold liveI
  split
  · have h1 := liveN_le (ls := S.ls.take k) (fun q hq => by have := h.inv.fit q (List.mem_of_mem_take hq); have := h.inv.per; omega) seg.toNat
    have h3 := h.cnt
    have h4 : (S.ls.take k).length ≤ S.ls.length := List.length_take_le' k S.ls
    omega
  · omega

set_option maxHeartbeats 1000000 in
theorem rlive_any (S : Sp) (hS0 : S.Good) (hc : S.cnt < 10000) (B r : Nat) (v : Value) (seg : Int) (w : World) (h : RAt w B r v S) :
    Calls Try.prog 22 #[.pointer (some ⟨r, 0, none⟩), .int .i64 seg] w fun e w' => e = .returned (.int .i64 (S.liveOf seg)) ∧ w = w' := by
  have hcn := hS0.cnt
  obtain ⟨a, c, rfl, hloc⟩ := own_locs h.own (by omega)
  obtain ⟨_, _, c2, _, _⟩ := h.cells
  have HE := Lib.hid (liveI_eq hS0 seg)
  have hcc := hloc.2.1
  have HL := Lib.hid (fun k => liveI_le hS0 hc k seg)
  have HSt := Lib.hid (fun k p hp => liveI_step S.ls k p hp seg)
  go_enter Try.func22, Try.ntmps22
  go_wp2_with fail
  go_loopw [5, 6] (fun s5 s6 wr => w = wr ∧ ∃ k : Nat, k ≤ S.ls.length ∧ s6 = .int .i64 k ∧ s5 = .int .i64 (liveI (S.ls.take k) seg)) (fun _ s6 _ => S.ls.length - (intOf s6).toNat)
  case atStart => exact ⟨rfl, 0, by omega, rfl, by simp [liveI, liveN]⟩
  case round =>
    obtain ⟨rfl, k, hk, rfl, rfl⟩ := hrel
    by_cases hlt : k < S.ls.length
    · obtain ⟨p, hp⟩ : ∃ p, S.ls[k]? = some p := ⟨_, List.getElem?_eq_getElem hlt⟩
      obtain ⟨G, rfl, hG, k0, k1, k2⟩ := hloc.2.2.2 k p hp
      have hle := HL.out k
      have hle2 := HL.out (k + 1)
      have hst := HSt.out k p hp
      have hfit := hS0.inv.fit p (List.mem_of_getElem? hp)
      have hpr := hS0.inv.per
      have HX := Lib.hid hst
      generalize hx : liveI (S.ls.take k) seg = x1 at *
      by_cases he : (p.seg : Int) = seg
      · rw [if_pos he] at hst
        have he' : ((p.seg : Int) == seg) = true := by simpa using he
        have hwr : IntKind.i64.wrap ((x1 : Int) + p.n) = (x1 : Int) + p.n := IntWalk.i64_in _ (by omega)
        replace HX := Lib.hid hst
        clear he hst hx hle2 hle
        go_wp2_with fail
        go_roundw
        case rel => exact ⟨trivial, k + 1, by omega, by go_num, by rw [HX.out, Int.natCast_add]⟩
        case measure => simp [intOf]; omega
      · rw [if_neg he] at hst
        have he' : ((p.seg : Int) == seg) = false := by simpa using he
        replace HX := Lib.hid hst
        clear he hst hx hle2 hle
        go_wp2_with fail
        go_roundw
        case rel => exact ⟨trivial, k + 1, by omega, by go_num, by rw [HX.out, Nat.add_zero]⟩
        case measure => simp [intOf]; omega
    · have hall : S.ls.take k = S.ls := List.take_of_length_le (by omega)
      rw [hall, HE.out]
      clear hall
      go_wp2_with fail
      go_ret
      exact ⟨rfl, rfl⟩

theorem liveOf_nat {S : Sp} {k : Nat} (hk : k < S.segs) : S.liveOf (k : Int) = liveN S.ls k := by
  unfold Sp.liveOf
  rw [if_pos ⟨by omega, by omega⟩]; simp
theorem emptyOf_step (S : Sp) (k : Nat) : S.emptyOf (k + 1) = S.emptyOf k + (if (k : Int) ≠ S.now ∧ liveN S.ls k = 0 then 1 else 0) := rfl
theorem emptyOf_le (S : Sp) (k : Nat) : S.emptyOf k ≤ k := by
  induction k with
  | zero => exact Nat.le_refl _
  | succ k ih => rw [emptyOf_step]; split <;> omega
set_option maxHeartbeats 1000000 in
theorem rempty_any (S : Sp) (hS0 : S.Good) (hc : S.cnt < 10000) (B r : Nat) (v : Value) (w : World) (h : RAt w B r v S) :
    Calls Try.prog 20 #[.pointer (some ⟨r, 0, none⟩)] w fun e w' => e = .returned (.int .i64 S.empty) ∧ w = w' := by
  obtain ⟨c0, c1, c2, c3, c4⟩ := h.cells
  have hsg := hS0.inv.segs
  have HLv := Lib.hid (fun (k : Nat) => rlive_any S hS0 hc B r v k w h)
  have HSt := Lib.hid (emptyOf_step S)
  have HLe := Lib.hid (emptyOf_le S)
  unfold Sp.empty
  go_enter Try.func20, Try.ntmps20
  go_wp2_with fail
  go_loopw [3, 4] (fun s3 s4 wr => w = wr ∧ ∃ k : Nat, k ≤ S.segs ∧ s4 = .int .i64 k ∧ s3 = .int .i64 (S.emptyOf k)) (fun _ s4 _ => S.segs - (intOf s4).toNat)
  case atStart => exact ⟨rfl, 0, by omega, rfl, rfl⟩
  case round =>
    obtain ⟨rfl, k, hk, rfl, rfl⟩ := hrel
    have hle := HLe.out k
    by_cases hlt : k < S.segs
    · have hst := HSt.out k
      have hlv := HLv.out k
      rw [liveOf_nat hlt] at hlv
      have HL := Lib.hid hlv
      clear hlv
      generalize S.emptyOf k = x1 at *
      by_cases hn : (k : Int) = S.now
      · rw [if_neg (fun hh => hh.1 hn)] at hst
        have hn' : ((k : Int) != S.now) = false := by simpa using hn
        have HX := Lib.hid hst
        clear hn hst
        go_wp2_with fail
        go_roundw
        case rel => exact ⟨trivial, k + 1, by omega, by go_num, by rw [HX.out, Nat.add_zero]⟩
        case measure => simp [intOf]; omega
      · have hn' : ((k : Int) != S.now) = true := by simpa using hn
        have HX := Lib.hid hst
        have hwx : IntKind.i64.wrap ((x1 : Int) + 1) = (x1 : Int) + 1 := IntWalk.i64_in _ (by omega)
        have HN := Lib.hid hn
        clear hst hn
        go_wp2_with fail
        refine HL.out.mono ?_
        rintro e w1 ⟨rfl, rfl⟩
        by_cases hz : liveN S.ls k = 0
        · have hX := HX.out
          rw [if_pos ⟨HN.out, hz⟩] at hX
          have hz' : ((liveN S.ls k : Int) == 0) = true := by simp [hz]
          have HX2 := Lib.hid hX
          clear hX hz
          go_wp2_with fail
          go_roundw
          case rel => exact ⟨trivial, k + 1, by omega, by go_num, by rw [HX2.out, Int.natCast_add]; rfl⟩
          case measure => simp [intOf]; omega
        · have hX := HX.out
          rw [if_neg (fun hh => hz hh.2)] at hX
          have hz' : ((liveN S.ls k : Int) == 0) = false := by simpa using hz
          have HX2 := Lib.hid hX
          clear hX hz
          go_wp2_with fail
          go_roundw
          case rel => exact ⟨trivial, k + 1, by omega, by go_num, by rw [HX2.out, Nat.add_zero]⟩
          case measure => simp [intOf]; omega
    · obtain rfl : k = S.segs := by omega
      go_wp2_with fail
      go_ret
      exact ⟨rfl, rfl⟩

def bestV : Option Nat → Value
  | none => .int .i64 (-1)
  | some b => .int .i64 (b : Nat)
theorem bestOf_step (S : Sp) (k : Nat) : S.bestOf (k + 1) = if (k : Int) ≠ S.now ∧ 0 < liveN S.ls k ∧ (S.bestOf k).all (fun b => decide (liveN S.ls k < liveN S.ls b)) = true then some k else S.bestOf k := rfl
theorem bestOf_lt (S : Sp) (k b : Nat) (h : S.bestOf k = some b) : b < k := by
  induction k with
  | zero => cases h
  | succ k ih =>
    rw [bestOf_step] at h
    split at h
    · cases h; omega
    · have := ih h; omega
def victimV (o : Option Nat) : Value := match o with
  | none => .tuple #[.int .i64 0, .bool false]
  | some b => .tuple #[.int .i64 (b : Nat), .bool true]
set_option maxHeartbeats 1000000 in
theorem rvictim_any (S : Sp) (hS0 : S.Good) (hc : S.cnt < 10000) (B r : Nat) (v : Value) (w : World) (h : RAt w B r v S) :
    Calls Try.prog 18 #[.pointer (some ⟨r, 0, none⟩)] w fun e w' => e = .returned (victimV S.victim) ∧ w = w' := by
  obtain ⟨c0, c1, c2, c3, c4⟩ := h.cells
  have hsg := hS0.inv.segs
  have HLv := Lib.hid (fun (k : Nat) => rlive_any S hS0 hc B r v k w h)
  have HSt := Lib.hid (bestOf_step S)
  have HLe := Lib.hid (bestOf_lt S)
  unfold Sp.victim
  go_enter Try.func18, Try.ntmps18
  go_wp2_with fail
  go_loopw [4, 5, 6] (fun s4 s5 _ wr => w = wr ∧ ∃ k : Nat, k ≤ S.segs ∧ s5 = .int .i64 k ∧ s4 = bestV (S.bestOf k)) (fun _ s5 _ _ => S.segs - (intOf s5).toNat)
  case atStart => exact ⟨rfl, 0, by omega, rfl, rfl⟩
  case round =>
    obtain ⟨rfl, k, hk, rfl, rfl⟩ := hrel
    by_cases hlt : k < S.segs
    · have hlv := HLv.out k
      rw [liveOf_nat hlt] at hlv
      have HL := Lib.hid hlv
      clear hlv
      have HB := Lib.hid (HSt.out k)
      have hlve : liveN S.ls k ≤ 640000 := hS0.live hc k
      go_wp2_with fail
      refine HL.out.mono ?_
      rintro e w1 ⟨rfl, rfl⟩
      by_cases hn : (k : Int) = S.now
      · have hn' : ((k : Int) != S.now) = false := by simpa using hn
        have HX := Lib.hid (show S.bestOf (k + 1) = S.bestOf k by rw [HB.out, if_neg (fun hh => hh.1 hn)])
        clear hn
        generalize hbo : S.bestOf k = bo at *
        go_wp2_with fail
        go_roundw
        case rel => exact ⟨trivial, k + 1, by omega, by go_num, by rw [HX.out]⟩
        case measure => simp [intOf]; omega
      · have hn' : ((k : Int) != S.now) = true := by simpa using hn
        by_cases hz : 0 < liveN S.ls k
        · have hz' : (0 < (liveN S.ls k : Int)) := by omega
          cases hb : S.bestOf k with
          | none =>
            have HX := Lib.hid (show S.bestOf (k + 1) = some k by rw [HB.out, if_pos ⟨hn, hz, by rw [hb]; rfl⟩])
            clear hn hb
            simp only [bestV]
            go_wp2_with fail
            go_roundw
            case rel => exact ⟨trivial, k + 1, by omega, by go_num, by rw [HX.out]; rfl⟩
            case measure => simp [intOf]; omega
          | some b =>
            have hbk := HLe.out k b hb
            have hlb := HLv.out b
            rw [liveOf_nat (show b < S.segs by omega)] at hlb
            have HLb := Lib.hid hlb
            clear hlb
            simp only [bestV]
            by_cases hlt2 : liveN S.ls k < liveN S.ls b
            · have HX := Lib.hid (show S.bestOf (k + 1) = some k by rw [HB.out, if_pos ⟨hn, hz, by rw [hb]; simpa using hlt2⟩])
              clear hn hb
              have hlt3 : ((liveN S.ls k : Int) < (liveN S.ls b : Int)) := by omega
              go_wp2_with fail
              refine HLb.out.mono ?_
              rintro e w1 ⟨rfl, rfl⟩
              go_wp2_with fail
              go_roundw
              case rel => exact ⟨trivial, k + 1, by omega, by go_num, by rw [HX.out]; rfl⟩
              case measure => simp [intOf]; omega
            · have HX := Lib.hid (show S.bestOf (k + 1) = some b by rw [HB.out, if_neg (fun hh => hlt2 (by have := hh.2.2; rw [hb] at this; simpa using this)), hb])
              clear hn hb
              have hlt3 : ¬ ((liveN S.ls k : Int) < (liveN S.ls b : Int)) := by omega
              go_wp2_with fail
              refine HLb.out.mono ?_
              rintro e w1 ⟨rfl, rfl⟩
              go_wp2_with fail
              go_roundw
              case rel => exact ⟨trivial, k + 1, by omega, by go_num, by rw [HX.out]; rfl⟩
              case measure => simp [intOf]; omega
        · have hz' : ¬ (0 < (liveN S.ls k : Int)) := by omega
          have HX := Lib.hid (show S.bestOf (k + 1) = S.bestOf k by rw [HB.out, if_neg (fun hh => hz hh.2.1)])
          clear hn
          generalize hbo : S.bestOf k = bo at *
          go_wp2_with fail
          go_roundw
          case rel => exact ⟨trivial, k + 1, by omega, by go_num, by rw [HX.out]⟩
          case measure => simp [intOf]; omega
    · obtain rfl : k = S.segs := by omega
      cases hb : S.bestOf S.segs with
      | none =>
        simp only [bestV]
        have HB := Lib.hid hb
        clear hb
        go_wp2_with fail
        go_ret2
        exact ⟨by rw [HB.out]; rfl, rfl⟩
      | some b =>
        simp only [bestV]
        have HB := Lib.hid hb
        clear hb
        go_wp2_with fail
        go_ret2
        exact ⟨by rw [HB.out]; rfl, rfl⟩
end Go.Proofs.Ytmicpjdlldjapaa
