/-
  A law that plays with the program's space and the document's: how both stand; and what comes in. No condition.
-/
import Derived.Test.YtmicpjdlldjapaaRf8C
import Derived.Test.YtmicpjdlldjapaaRf8D
import Derived.Test.YtmicpjdlldjapaaOpen8
import Derived.Lib.SmallJoins
namespace Go.Proofs.Ytmicpjdlldjapaa
set_option linter.unusedVariables false
set_option linter.unusedSimpArgs false
open Go.RowKit

/-- Something to be done. -/
structure ActP where
  what : Int
  n : Int
  spare : Bool
  seg : Int
  pl : Int
  len : Int
instance : Inhabited ActP := ⟨⟨0, 0, false, 0, 0, 0⟩⟩
def ActP.ok (x : ActP) : Prop := isInt x.what ∧ isInt x.n ∧ isInt x.seg ∧ isInt x.pl ∧ isInt x.len
def actCells (x : ActP) : List Value := [.int .i64 x.what, .int .i64 x.n, .bool x.spare, .int .i64 x.seg, .int .i64 x.pl, .int .i64 x.len]
def ActsAt (w : World) (a : Option Addr) (n c : Nat) (xs : List ActP) : Prop :=
  xs.length = n ∧ n ≤ c ∧ n ≤ 9223372036854775807 ∧ ∀ i x, xs[i]? = some x → x.ok ∧ ∃ g o, a = some ⟨g, o, none⟩ ∧ g < w.heap.size ∧ ∀ j u, (actCells x)[j]? = some u → w.cell? ⟨g, o + i * 6 + j, none⟩ = some u
theorem ActsAt.on {w w' : World} {a : Option Addr} {n c : Nat} {xs : List ActP} (h : ActsAt w a n c xs) (hb : Below w.heap.size w w') : ActsAt w' a n c xs := by
  obtain ⟨h1, h2, h3, h4⟩ := h
  refine ⟨h1, h2, h3, fun i x hx => ?_⟩
  obtain ⟨hok, g, o, e, hg, hc⟩ := h4 i x hx
  exact ⟨hok, g, o, e, Nat.lt_of_lt_of_le hg hb.size, fun j u hj => (hb.cell (p := ⟨g, o + i * 6 + j, none⟩) hg).trans (hc j u hj)⟩

/-- How the law stands: the program's space, the document's, the pieces that were given. -/
structure PlayR (w : World) (B b g cap : Nat) (ms : List Nat) (r N M i : Nat) (v7 vr : Value) (S : Sp) (wr : World) (G : List Pc) : Prop where
  good : S.Good
  segs : S.segs = N
  per : S.per = M
  cnt : S.cnt ≤ i
  at_ : SpAt wr b g cap ms S
  ref : RAt wr B r vr S
  own : wr.ownsRow B 31 3 v7 G.length (locsCells G)
  glen : G.length ≤ i
  dis : ∀ x, vr.ownBlock = some x → v7.ownBlock ≠ some x
  bel : Below w.heap.size w wr
  foot : ∀ x ∈ r :: b :: g :: ms, w.heap.size ≤ x ∧ x < B
  rn : r ∉ b :: g :: ms
  le : B ≤ wr.heap.size
  fit : ∀ p ∈ G, p.seg ≤ 64 ∧ p.pl ≤ 64 ∧ p.n ≤ 64
theorem PlayR.on {w : World} {B b g cap : Nat} {ms : List Nat} {r N M i : Nat} {v7 vr : Value} {S : Sp} {wr w' : World} {G : List Pc} (h : PlayR w B b g cap ms r N M i v7 vr S wr G) (hb : Below wr.heap.size wr w') : PlayR w B b g cap ms r N M i v7 vr S w' G :=
  ⟨h.good, h.segs, h.per, h.cnt, h.at_.on hb, h.ref.on hb, ownsRow_mod h.own (Mod.of_below (S := []) hb) (by simp), h.glen, h.dis, h.bel.on hb, h.foot, h.rn, Nat.le_trans h.le hb.size, h.fit⟩
theorem PlayR.next {w : World} {B b g cap : Nat} {ms : List Nat} {r N M i : Nat} {v7 vr : Value} {S : Sp} {wr : World} {G : List Pc} (h : PlayR w B b g cap ms r N M i v7 vr S wr G) : PlayR w B b g cap ms r N M (i + 1) v7 vr S wr G :=
  { h with cnt := Nat.le_succ_of_le h.cnt, glen := Nat.le_succ_of_le h.glen }
/-- Behind what the program's space did: the document's still stands. -/
theorem PlayR.refs {w : World} {B b g cap : Nat} {ms : List Nat} {r N M i : Nat} {v7 vr : Value} {S : Sp} {wr w1 : World} {G : List Pc} (h : PlayR w B b g cap ms r N M i v7 vr S wr G) (hm : Mod (b :: g :: ms) wr w1) : RAt w1 B r vr S ∧ B ≤ w1.heap.size :=
  ⟨h.ref.mod hm h.rn (fun x hx hh => by have := (h.ref.own.lt x hh).1; have := (h.foot x (by simp [hx])).2; simp only [List.mem_cons] at hx; omega), Nat.le_trans h.le hm.size⟩
/-- Both did the same. -/
theorem PlayR.two {w : World} {B b g cap : Nat} {ms : List Nat} {r N M i : Nat} {v7 vr : Value} {S S2 : Sp} {wr w1 w2 : World} {G : List Pc} (h : PlayR w B b g cap ms r N M i v7 vr S wr G)
    (hs : SpAt w1 b g cap ms S2) (hm : Mod (b :: g :: ms) wr w1) {v2 : Value} (hr : RAt w2 B r v2 S2) (hm2 : Mod (r :: vr.ownBlock.toList) w1 w2) (hv : ∀ x, v2.ownBlock = some x → vr.ownBlock = some x ∨ w1.heap.size ≤ x)
    (hg : S2.Good) (h1 : S2.segs = N) (h2 : S2.per = M) (h3 : S2.cnt ≤ i + 1) : PlayR w B b g cap ms r N M (i + 1) v7 v2 S2 w2 G := by
  have hfv : ∀ x ∈ b :: g :: ms, vr.ownBlock ≠ some x := fun x hx hh => by
    have := (h.ref.own.lt x hh).1; have := (h.foot x (List.mem_cons_of_mem _ hx)).2; omega
  have hf7 : ∀ x ∈ r :: b :: g :: ms, v7.ownBlock ≠ some x := fun x hx hh => by
    have := (h.own.lt x hh).1; have := (h.foot x hx).2; omega
  have hbel := Mod.fresh h.bel hm (fun x hx => (h.foot x (List.mem_cons_of_mem _ hx)).1)
  have hsz := hm.size
  refine ⟨hg, h1, h2, h3, hs.mod hm2 (fun x hx hin => ?_), hr, ?_, Nat.le_succ_of_le h.glen, fun x hx hh => ?_, Mod.fresh hbel hm2 (fun x hx => ?_), h.foot, h.rn, Nat.le_trans (Nat.le_trans h.le hm.size) hm2.size, h.fit⟩
  · rcases List.mem_cons.1 hin with rfl | hin
    · exact h.rn hx
    · exact hfv x hx (by simpa using hin)
  · refine ownsRow_mod (ownsRow_mod h.own hm (fun x hx => hf7 x (List.mem_cons_of_mem _ hx))) hm2 (fun x hx => ?_)
    rcases List.mem_cons.1 hx with rfl | hx
    · exact hf7 _ (by simp)
    · exact h.dis x (by simpa using hx)
  · rcases hv x hx with h5 | h5
    · exact h.dis x h5 hh
    · have := (h.own.lt x hh).2; omega
  · rcases List.mem_cons.1 hx with rfl | hx
    · exact (h.foot _ (by simp)).1
    · have := (h.ref.own.lt x (by simpa using hx)).1
      have := (h.foot r (by simp)); omega
/-- A piece was given. -/
theorem PlayR.give {w : World} {B b g cap : Nat} {ms : List Nat} {r N M i : Nat} {v7 vr : Value} {S : Sp} {wr w2 : World} {G : List Pc} (h : PlayR w B b g cap ms r N M (i + 1) v7 vr S wr G) (hG : G.length ≤ i) (p : Pc) {v8 : Value}
    (hown : w2.ownsRow B 31 3 v8 (G ++ [p]).length (locsCells (G ++ [p]))) (hm : Mod v7.ownBlock.toList wr w2) (hv : ∀ x, v8.ownBlock = some x → v7.ownBlock = some x ∨ wr.heap.size ≤ x) (hp : p.seg ≤ 64 ∧ p.pl ≤ 64 ∧ p.n ≤ 64) : PlayR w B b g cap ms r N M (i + 1) v8 vr S w2 (G ++ [p]) := by
  have hf7 : ∀ x ∈ r :: b :: g :: ms, x ∉ v7.ownBlock.toList := fun x hx hh => by
    have := (h.own.lt x (by simpa using hh)).1; have := (h.foot x hx).2; omega
  refine ⟨h.good, h.segs, h.per, h.cnt, h.at_.mod hm (fun x hx => hf7 x (List.mem_cons_of_mem _ hx)), h.ref.mod hm (hf7 r (by simp)) (fun x hx hh => h.dis x hh (by simpa using hx)), hown, by simp; omega, fun x hx hh => ?_, Mod.fresh h.bel hm (fun x hx => ?_), h.foot, h.rn, Nat.le_trans h.le hm.size, fun q hq => ?_⟩
  · rcases hv x hh with h5 | h5
    · exact h.dis x hx h5
    · have := (h.ref.own.lt x hx).2; omega
  · have := (h.own.lt x (by simpa using hx)).1
    have := h.foot r (by simp); omega
  · rcases List.mem_append.1 hq with hq | hq
    · exact h.fit q hq
    · rw [List.mem_singleton.1 hq]; exact hp
/-- Something else was written. -/
theorem PlayR.away {w : World} {B b g cap : Nat} {ms : List Nat} {r N M i : Nat} {v7 vr : Value} {S : Sp} {wr w' : World} {G : List Pc} {P : Nat} (h : PlayR w B b g cap ms r N M i v7 vr S wr G) (hm : Mod [P] wr w') (hB : B ≤ P) (h1 : vr.ownBlock ≠ some P) (h2 : v7.ownBlock ≠ some P) : PlayR w B b g cap ms r N M i v7 vr S w' G := by
  have hf : ∀ x ∈ r :: b :: g :: ms, x ∉ [P] := fun x hx hh => by have := (h.foot x hx).2; rw [List.mem_singleton.1 hh] at this; omega
  refine ⟨h.good, h.segs, h.per, h.cnt, h.at_.mod hm (fun x hx => hf x (List.mem_cons_of_mem _ hx)), h.ref.mod hm (hf r (by simp)) (fun x hx => by rw [List.mem_singleton.1 hx]; exact h1), ownsRow_mod h.own hm (fun x hx => by rw [List.mem_singleton.1 hx]; exact h2), h.glen, h.dis, Mod.fresh h.bel hm (fun x hx => ?_), h.foot, h.rn, Nat.le_trans h.le hm.size, h.fit⟩
  rw [List.mem_singleton.1 hx]
  have := h.foot r (by simp); omega
theorem drop_segs (S : Sp) (a b c : Int) : (S.drop a b c).2.segs = S.segs ∧ (S.drop a b c).2.per = S.per ∧ (S.drop a b c).2.cnt = S.cnt := by
  unfold Sp.drop
  split <;> simp
theorem take_segs (S : Sp) (a b c : Int) : (S.take a b c).2.segs = S.segs ∧ (S.take a b c).2.per = S.per ∧ (S.take a b c).2.cnt ≤ S.cnt + 1 := by
  unfold Sp.take
  split <;> simp

section
variable {H : Type} {enc : TypeId × Value → H} {w : World} {base : Nat} {spare : Nat → Bool} {held : Bool}
theorem list6 {α : Type} {cs : List α} (h : cs.length = 6) : ∃ a b c d e f, cs = [a, b, c, d, e, f] := by
  match cs, h with
  | [a, b, c, d, e, f], _ => exact ⟨a, b, c, d, e, f, rfl⟩
theorem isInt_of {k : Int} (h : (Lit.int .i64 k).wf = true) : isInt k := .of_wf h
theorem open_act {fuel : Nat} {cs : List Value} {x : DataW H × List MemPlace} (h : DataW.trod enc Try.prog w base spare held fuel 33 cs = some x) : ∃ d : ActP, cs = actCells d ∧ d.ok := by
  obtain ⟨y0, y1, y2, y3, n, rfl, hl, h0, h1, h2, h3⟩ := Joins.trod_struct4 Try.underlying33 h
  have hc : Try.prog.cellsOf 33 = 6 := by kernel_rfl
  obtain ⟨a, b, c, d, e, f, rfl⟩ := list6 (hl.trans hc)
  have c1 : Try.prog.cellsOf 4 = 1 := by kernel_rfl
  have c2 : Try.prog.cellsOf 3 = 1 := by kernel_rfl
  have c3 : Try.prog.cellsOf 31 = 3 := by kernel_rfl
  simp only [c1, c2, c3] at h0 h1 h2 h3
  obtain ⟨s0, e0, _, l0⟩ := DataW.trod_int Try.underlying3 h0
  obtain ⟨s1, e1, _, l1⟩ := DataW.trod_int Try.underlying3 h1
  obtain ⟨s2, e2, _⟩ := DataW.trod_bool Try.underlying4 h2
  simp only [List.drop_zero, List.drop_succ_cons, List.take_succ_cons, List.take_zero, List.cons.injEq, and_true] at e0 e1 e2
  obtain ⟨z0, z1, z2, m, rfl, hl3, g0, g1, g2⟩ := Deep.trod_struct3 Try.underlying31 h3
  simp only [c2] at g0 g1 g2
  obtain ⟨t0, f0, _, m0⟩ := DataW.trod_int Try.underlying3 g0
  obtain ⟨t1, f1, _, m1⟩ := DataW.trod_int Try.underlying3 g1
  obtain ⟨t2, f2, _, m2⟩ := DataW.trod_int Try.underlying3 g2
  simp only [List.drop_zero, List.drop_succ_cons, List.take_succ_cons, List.take_zero, List.cons.injEq, and_true] at f0 f1 f2
  subst e0 e1 e2 f0 f1 f2
  exact ⟨⟨s0, s1, s2, t0, t1, t2⟩, rfl, isInt_of l0, isInt_of l1, isInt_of m0, isInt_of m1, isInt_of m2⟩
theorem cellsN {k : Nat} {a : Addr} {cs : List Value} (h : w.cells? base a k = some cs) : ∀ j u, cs[j]? = some u → w.cell? (a.add j) = some u := by
  unfold World.cells? at h
  split at h
  · intro j u hj
    have hlen : cs.length = k := by simpa using mapM_some_length h
    have hj' := (List.getElem?_eq_some_iff.1 hj).1
    have := mapM_some_get h j j (by rw [List.getElem?_range (by omega)])
    rw [← hj]
    exact this
  · simp at h
theorem open_acts {fuel : Nat} {cs : List Value} {x : DataW H × List MemPlace} (h : DataW.trod enc Try.prog w base spare held fuel 22 cs = some x) :
    ∃ a n c ds, cs = [.slice a n c] ∧ ActsAt w a n c ds := by
  rcases Deep.open_slice Try.underlying22 h with ⟨e, _⟩ | ⟨a, n, c, m, k, D, Pl, e, hb, hl, hm, hmm, _, hel⟩
  · exact ⟨none, 0, 0, [], e, rfl, Nat.le_refl _, by omega, fun i d hd => by simp at hd⟩
  · have hc : Try.prog.cellsOf 33 = 6 := by kernel_rfl
    have hnm : n ≤ m := by rw [hmm]; split <;> omega
    have hrec : ∀ i, i < n → ∃ r : ActP, r.ok ∧ w.cells? base (a.add (i * 6)) 6 = some (actCells r) := by
      intro i hi
      obtain ⟨cs', h1, h2⟩ := hel i (by omega)
      obtain ⟨r, rfl, hr⟩ := open_act h2
      rw [hc] at h1
      exact ⟨r, hr, h1⟩
    obtain ⟨F, hF⟩ := Deep.choose_lt hrec
    refine ⟨some a, n, c, (List.range n).map F, e, by simp, hl, by unfold maxLen at hm; omega, fun i d hd => ?_⟩
    have hi : i < n := by simpa using (List.getElem?_eq_some_iff.1 hd).1
    rw [List.getElem?_map, List.getElem?_range hi] at hd
    cases hd
    refine ⟨(hF i hi).1, ?_⟩
    have hz := cellsN (hF i hi).2
    have y0 := cellsN (hF 0 (by omega)).2 0 _ rfl
    rw [show (a.add (0 * 6)).add 0 = a from rfl] at y0
    obtain ⟨hsp, hlt⟩ := cell_spot y0
    obtain ⟨g, o, sp⟩ := a
    simp only at hsp hlt
    subst hsp
    refine ⟨g, o, rfl, hlt, fun j u hj => ?_⟩
    have := hz j u hj
    rw [addr_add, addr_add] at this
    exact this
theorem open_two {r : Reach} {b0 : Nat} {v : Value} {d : DataW H} {p : List MemPlace} (hok : Value.okWide Try.prog w r b0 23 v) (h : DataW.Trod enc Try.prog w base spare held 23 v d p) :
    ∃ x y : Int, v = .agg #[.int .i64 x, .int .i64 y] ∧ isInt x ∧ isInt y ∧ p = [] := by
  have hc : Try.prog.cellsOf 23 = 2 := by kernel_rfl
  have hc1 : Try.prog.cellsOf 3 = 1 := by kernel_rfl
  simp only [Value.okWide, Try.underlying23] at hok
  obtain ⟨cs, rfl, h2, _⟩ := hok
  rw [hc] at h2
  obtain ⟨fuel, hf⟩ := h
  obtain ⟨xs, m, _, ex, hlen, hl, hel⟩ := DataW.trod_array Try.underlying23 hf
  simp only [hc1, Value.cells] at hel
  have hcs : ∃ a b, cs = #[a, b] := by
    obtain ⟨l⟩ := cs
    match l, h2 with
    | [a, b], _ => exact ⟨a, b, rfl⟩
  obtain ⟨a, b, rfl⟩ := hcs
  have e0 := hel 0 (by omega)
  have e1 := hel 1 (by omega)
  match xs, hl with
  | [y0, y1], _ =>
    obtain ⟨s0, g0, q0, l0⟩ := DataW.trod_int Try.underlying3 (by simpa using e0)
    obtain ⟨s1, g1, q1, l1⟩ := DataW.trod_int Try.underlying3 (by simpa using e1)
    simp only [List.cons.injEq, and_true] at g0 g1
    subst g0 g1 q0 q1
    refine ⟨s0, s1, rfl, isInt_of l0, isInt_of l1, ?_⟩
    cases ex
    rfl
end
end Go.Proofs.Ytmicpjdlldjapaa
