/-
  What comes in: a list of things to be done with a space; and Alloc where its piece is kept. No condition.
-/
import Derived.Test.YtmicpjdlldjapaaSpQ
import Derived.Deep.RegionHeld3
namespace Go.Proofs.Ytmicpjdlldjapaa
set_option linter.unusedVariables false
set_option linter.unusedSimpArgs false
open Go.RowKit

/-- A thing to be done. -/
structure Do where
  free : Bool
  n : Nat
  spare : Bool
/-- Things to be done stand in a slice. -/
def DosAt (w : World) (a : Option Addr) (n c : Nat) (ds : List Do) : Prop :=
  ds.length = n ∧ n ≤ c ∧ n ≤ 9223372036854775807 ∧ ∀ i d, ds[i]? = some d → d.n < 256 ∧ ∃ g o, a = some ⟨g, o, none⟩ ∧ g < w.heap.size ∧ w.cell? ⟨g, o + i * 3, none⟩ = some (.bool d.free) ∧ w.cell? ⟨g, o + i * 3 + 1, none⟩ = some (.int .u8 d.n) ∧ w.cell? ⟨g, o + i * 3 + 2, none⟩ = some (.bool d.spare)
theorem DosAt.on {w w' : World} {a : Option Addr} {n c : Nat} {ds : List Do} (h : DosAt w a n c ds) (hb : Below w.heap.size w w') : DosAt w' a n c ds := by
  obtain ⟨h1, h2, h3, h4⟩ := h
  refine ⟨h1, h2, h3, fun i d hd => ?_⟩
  obtain ⟨hn, g, o, e, hg, c1, c2, c3⟩ := h4 i d hd
  exact ⟨hn, g, o, e, Nat.lt_of_lt_of_le hg hb.size, (hb.cell (p := ⟨g, o + i * 3, none⟩) hg).trans c1, (hb.cell (p := ⟨g, o + i * 3 + 1, none⟩) hg).trans c2, (hb.cell (p := ⟨g, o + i * 3 + 2, none⟩) hg).trans c3⟩

def allocV (r : (Nat × Nat × Nat) × Nat × Sp) : Value := .tuple #[.agg #[.int .i64 (r.1.1 : Nat), .int .i64 (r.1.2.1 : Nat), .int .i64 (r.1.2.2 : Nat)], .int .i64 (r.2.1 : Nat)]
/-- Alloc, and two cells of another block. -/
theorem alloc_keep (S : Sp) (hS0 : S.Good) (hc : S.cnt < 10000) (b g cap : Nat) (ms : List Nat) (n : Int) (spare : Bool) (hn : isInt n) (w : World) (h : SpAt w b g cap ms S) (G o : Nat) (v1 v2 : Value) (h1 : w.cell? ⟨G, o + 1, none⟩ = some v1) (h2 : w.cell? ⟨G, o + 2, none⟩ = some v2) (hG : G < w.heap.size ∧ G ∉ b :: g :: ms)
    (r : (Nat × Nat × Nat) × Nat × Sp) (hr : S.alloc n spare = r) :
    Calls Try.prog 15 #[.pointer (some ⟨b, 0, none⟩), .int .i64 n, .bool spare] w fun e w' => e = .returned (allocV r) ∧ SpAt w' b g cap ms r.2.2 ∧ Mod (b :: g :: ms) w w' ∧ w'.cell? ⟨G, o + 1, none⟩ = some v1 ∧ w'.cell? ⟨G, o + 2, none⟩ = some v2 := by
  subst hr
  exact (alloc_any S hS0 hc b g cap ms n spare hn w h).mono fun e w' ⟨e1, e2, e3⟩ => ⟨e1, e2, e3, (e3.cell hG.1 hG.2).trans h1, (e3.cell hG.1 hG.2).trans h2⟩
/-- Alloc behind the making of a piece's block: what is known then. -/
def KeptX (b g cap : Nat) (ms : List Nat) (r : (Nat × Nat × Nat) × Nat × Sp) (G o : Nat) (v1 v2 : Value) (w : World) (e : Ending) (w' : World) : Prop :=
  e = .returned (allocV r) ∧ SpAt w' b g cap ms r.2.2 ∧ Mod (b :: g :: ms) (w.alloc (.cells #[.int .i64 0, .int .i64 0, .int .i64 0] 31)).drew w' ∧ w'.cell? ⟨G, o + 1, none⟩ = some v1 ∧ w'.cell? ⟨G, o + 2, none⟩ = some v2 ∧
    w'.cell? ⟨w.heap.size, 0, none⟩ = some (.int .i64 0) ∧ w'.cell? ⟨w.heap.size, 1, none⟩ = some (.int .i64 0) ∧ w'.cell? ⟨w.heap.size, 2, none⟩ = some (.int .i64 0) ∧ w'.frozen? ⟨w.heap.size, 0, none⟩ = false ∧ w'.frozen? ⟨w.heap.size, 1, none⟩ = false ∧ w'.frozen? ⟨w.heap.size, 2, none⟩ = false
theorem alloc_keepX (S : Sp) (hS0 : S.Good) (hc : S.cnt < 10000) (b g cap : Nat) (ms : List Nat) (n : Int) (spare : Bool) (hn : isInt n) (w : World) (h : SpAt w b g cap ms S) (G o : Nat) (v1 v2 : Value) (h1 : w.cell? ⟨G, o + 1, none⟩ = some v1) (h2 : w.cell? ⟨G, o + 2, none⟩ = some v2) (hG : G < w.heap.size ∧ G ∉ b :: g :: ms)
    (r : (Nat × Nat × Nat) × Nat × Sp) (hr : S.alloc n spare = r) :
    Calls Try.prog 15 #[.pointer (some ⟨b, 0, none⟩), .int .i64 n, .bool spare] (w.alloc (.cells #[.int .i64 0, .int .i64 0, .int .i64 0] 31)).drew (KeptX b g cap ms r G o v1 v2 w) := by
  have hb := below_drew ((Below.refl w.heap.size w).alloc (Nat.le_refl _) (.cells #[.int .i64 0, .int .i64 0, .int .i64 0] 31))
  have hX : Blk (w.alloc (.cells #[.int .i64 0, .int .i64 0, .int .i64 0] 31)).drew w.heap.size [.int .i64 0, .int .i64 0, .int .i64 0] 31 := (Blk.new w [.int .i64 0, .int .i64 0, .int .i64 0] 31).drew
  refine (alloc_keep S hS0 hc b g cap ms n spare hn _ (h.on hb) G o v1 v2 ((hb.cell (p := ⟨G, o + 1, none⟩) hG.1).trans h1) ((hb.cell (p := ⟨G, o + 2, none⟩) hG.1).trans h2) ⟨Nat.lt_of_lt_of_le hG.1 hb.size, hG.2⟩ r hr).mono ?_
  rintro e w' ⟨e1, e2, e3, e4, e5⟩
  have hX' := hX.mod e3 (fun hin => by have := h.below _ hin; omega)
  exact ⟨e1, e2, e3, e4, e5, by rw [hX'.cell]; rfl, by rw [hX'.cell]; rfl, by rw [hX'.cell]; rfl, hX'.free 0, hX'.free 1, hX'.free 2⟩
/-- A piece that was given stands in a block of its own (or nought, and why). -/
def GotLoc (w : World) (b g cap : Nat) (ms : List Nat) (r : (Nat × Nat × Nat) × Nat × Sp) (s13 s14 : Value) (wx : World) : Prop :=
  ∃ X, s13 = .pointer (some ⟨X, 0, none⟩) ∧ s14 = .int .i64 (r.2.1 : Nat) ∧ SpAt wx b g cap ms r.2.2 ∧ Blk wx X [.int .i64 (r.1.1 : Nat), .int .i64 (r.1.2.1 : Nat), .int .i64 (r.1.2.2 : Nat)] 31 ∧ Mod (b :: g :: ms) w wx
theorem got_a {w w' : World} {b g cap : Nat} {ms : List Nat} {r : (Nat × Nat × Nat) × Nat × Sp} (hs : SpAt w' b g cap ms r.2.2) (hm : Mod (b :: g :: ms) w w') :
    GotLoc w b g cap ms r (.pointer (some ⟨w'.heap.size, 0, none⟩)) (.int .i64 (r.2.1 : Nat)) (w'.alloc (.cells #[.int .i64 (r.1.1 : Nat), .int .i64 (r.1.2.1 : Nat), .int .i64 (r.1.2.2 : Nat)] 31)) :=
  ⟨_, rfl, rfl, hs.on ((Below.refl _ _).alloc (Nat.le_refl _) _), Blk.new _ [.int .i64 (r.1.1 : Nat), .int .i64 (r.1.2.1 : Nat), .int .i64 (r.1.2.2 : Nat)] _, hm.alloc _⟩
theorem got_b {w w' : World} {b g cap : Nat} {ms : List Nat} {r : (Nat × Nat × Nat) × Nat × Sp} (hbl : ∀ x ∈ b :: g :: ms, x < w.heap.size) (hs : SpAt w' b g cap ms r.2.2) (hm : Mod (b :: g :: ms) ((w.alloc (.cells #[.int .i64 0, .int .i64 0, .int .i64 0] 31)).drew) w') :
    GotLoc w b g cap ms r (.pointer (some ⟨w.heap.size, 0, none⟩)) (.int .i64 (r.2.1 : Nat)) (((w'.setCell ⟨w.heap.size, 0, none⟩ (.int .i64 (r.1.1 : Nat))).setCell ⟨w.heap.size, 1, none⟩ (.int .i64 (r.1.2.1 : Nat))).setCell ⟨w.heap.size, 2, none⟩ (.int .i64 (r.1.2.2 : Nat))) := by
  have hX : Blk ((w.alloc (.cells #[.int .i64 0, .int .i64 0, .int .i64 0] 31)).drew) w.heap.size [.int .i64 0, .int .i64 0, .int .i64 0] 31 := (Blk.new w [.int .i64 0, .int .i64 0, .int .i64 0] 31).drew
  have hX2 := hX.mod hm (fun hin => by have := hbl _ hin; omega)
  have hm3 := (((Mod.refl [w.heap.size] w').setCell ⟨w.heap.size, 0, none⟩ (.int .i64 (r.1.1 : Nat)) (.inl (by simp))).setCell ⟨w.heap.size, 1, none⟩ (.int .i64 (r.1.2.1 : Nat)) (.inl (by simp))).setCell ⟨w.heap.size, 2, none⟩ (.int .i64 (r.1.2.2 : Nat)) (.inl (by simp))
  have hm0 : Mod (b :: g :: ms) w w' := (((Mod.refl _ _).alloc _).drew).trans hm
  refine ⟨_, rfl, rfl, hs.mod hm3 (fun x hx => by have := hbl x hx; simp only [List.mem_singleton]; omega), ((hX2.set 0 _).set 1 _).set 2 _, hm0.on hm3 (fun x hx => .inr (by rw [List.mem_singleton.1 hx]; exact Nat.le_refl _))⟩

/-- The first piece that is just so is the one at its place. -/
theorem erase_at {ls : List Pc} (ha : ls.Pairwise apartP) (hn : ∀ q ∈ ls, 1 ≤ q.n) {k : Nat} {p : Pc} (hp : ls[k]? = some p) : ls.eraseP (isPc p.seg p.pl p.n) = ls.eraseIdx k := by
  induction ls generalizing k with
  | nil => simp at hp
  | cons q qs ih =>
    have h1 := List.pairwise_cons.1 ha
    cases k with
    | zero =>
      cases hp
      rw [List.eraseP_cons_of_pos (by simp [isPc]), List.eraseIdx_cons_zero]
    | succ k =>
      have hp' : qs[k]? = some p := by simpa using hp
      have hne := apart_ne (h1.1 p (List.mem_of_getElem? hp')) (hn q (by simp)) (hn p (by simp [List.mem_of_getElem? hp']))
      rw [List.eraseP_cons_of_neg (by simp only [isPc, decide_eq_true_eq]; intro hh; exact hne ⟨by omega, by omega⟩), List.eraseIdx_cons_succ, ih h1.2 (fun x hx => hn x (by simp [hx])) hp']
theorem drop_at {S : Sp} (h : S.Good) {k : Nat} {p : Pc} (hp : S.ls[k]? = some p) : S.drop p.seg p.pl p.n = (0, ⟨S.segs, S.per, S.ls.eraseIdx k, S.now, S.mark, S.cnt⟩) := by
  unfold Sp.drop
  rw [if_pos (List.any_eq_true.2 ⟨p, List.mem_of_getElem? hp, by simp [isPc]⟩), erase_at h.inv.apart h.pos hp]
theorem alloc_segs (S : Sp) (n : Int) (spare : Bool) : (S.alloc n spare).2.2.segs = S.segs ∧ (S.alloc n spare).2.2.per = S.per ∧ (S.alloc n spare).2.2.cnt ≤ S.cnt + 1 := by
  unfold Sp.alloc
  split
  · simp
  · split
    · split
      · simp
      · split <;> simp [Sp.fill]
    · simp [Sp.fill]
theorem alloc_ls (S : Sp) (n : Int) (spare : Bool) : ((S.alloc n spare).2.1 = 0 ∧ (S.alloc n spare).2.2.ls = S.ls ++ [⟨(S.alloc n spare).1.1, (S.alloc n spare).1.2.1, (S.alloc n spare).1.2.2⟩]) ∨ ((S.alloc n spare).2.1 ≠ 0 ∧ (S.alloc n spare).2.2 = S) := by
  unfold Sp.alloc
  split
  · exact .inr ⟨by simp, rfl⟩
  · split
    · split
      · exact .inr ⟨by simp, rfl⟩
      · split
        · exact .inr ⟨by simp, rfl⟩
        · exact .inl ⟨rfl, rfl⟩
    · exact .inl ⟨rfl, rfl⟩
theorem alloc_bad (S : Sp) (n : Int) (spare : Bool) (h1 : 1 ≤ n) (h2 : n ≤ S.per) : (S.alloc n spare).2.1 = 0 ∨ (S.alloc n spare).2.1 = 7 := by
  unfold Sp.alloc
  rw [if_neg (by omega)]
  split
  · split
    · exact .inr rfl
    · split
      · exact .inr rfl
      · exact .inl rfl
  · exact .inl rfl
theorem victim_nil {S : Sp} (h : S.ls = []) : S.victim = none := by
  unfold Sp.victim
  rw [bestOf_eq, if_pos]
  apply List.filter_eq_nil_iff.2
  intro i _
  simp [Sp.isClosed, h, liveN]
theorem empty_nil {S : Sp} (h : S.ls = []) (k : Nat) : S.emptyOf k + (if 0 ≤ S.now ∧ S.now < k then 1 else 0) = k := by
  induction k with
  | zero =>
    show 0 + (if 0 ≤ S.now ∧ S.now < 0 then 1 else 0) = 0
    rw [if_neg (by omega)]
  | succ k ih =>
    show S.emptyOf k + (if (k : Int) ≠ S.now ∧ liveN S.ls k = 0 then 1 else 0) + (if 0 ≤ S.now ∧ S.now < ((k + 1 : Nat) : Int) then 1 else 0) = k + 1
    have h0 : liveN S.ls k = 0 := by rw [h]; rfl
    by_cases hk : (k : Int) = S.now
    · rw [if_neg (fun hh => hh.1 hk), if_pos (by omega)]
      rw [if_neg (by omega)] at ih
      omega
    · rw [if_pos ⟨hk, h0⟩]
      by_cases hq : 0 ≤ S.now ∧ S.now < k
      · rw [if_pos hq] at ih
        rw [if_pos (by omega)]; omega
      · rw [if_neg hq] at ih
        rw [if_neg (by omega)]; omega
theorem empty_nil2 {S : Sp} (h : S.ls = []) : S.segs ≤ S.empty + 1 := by
  have := empty_nil h S.segs
  unfold Sp.empty
  split at this <;> omega
end Go.Proofs.Ytmicpjdlldjapaa
