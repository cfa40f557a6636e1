/-
  look.Tree's questions of a record that is there, and of an operation; the first one of a list. Condition: at most a million records. (Printed by gen_lookg.py.)
-/
import Derived.Test.YtecknikehieioaaGreatLookF
import Derived.Test.YtecknikehieioaaGreatSettleF
namespace Go.Proofs.YtecknikehieioaaGreat
set_option linter.unusedVariables false
set_option linter.unusedSimpArgs false
open Go.RowKit Go.Maps

theorem max_u64 (a b : Nat) (w : World) : (Builtin.max_ #[32, 32] 32 #[.int .u64 (a : Nat), .int .u64 (b : Nat)]).run Tryz.prog w = .ok (.int .u64 (max a b : Nat)) w := by
  rw [run_max_int2, show (if (b : Int) > (a : Int) then (b : Int) else (a : Int)) = ((max a b : Nat) : Int) from by split <;> omega]
/-- The box of what is seen. -/
structure SnAt (w : World) (sx : Nat) (s : Sn) : Prop where
  blk : Blk w sx (snCells s) 47
theorem SnAt.on {w w' : World} {sx : Nat} {s : Sn} (h : SnAt w sx s) (hb : Below w.heap.size w w') : SnAt w' sx s := ⟨h.blk.on hb⟩
theorem SnAt.mod {S : List Nat} {w w' : World} {sx : Nat} {s : Sn} (h : SnAt w sx s) (hm : Mod S w w') (hn : sx ∉ S) : SnAt w' sx s := ⟨h.blk.mod hm hn⟩
def SnCells (w : World) (sx : Nat) (s : Sn) : Prop :=
  w.cell? ⟨sx, 0, none⟩ = some (.bool s.tcUp) ∧ w.cell? ⟨sx, 1, none⟩ = some (.bool s.dcUp) ∧ w.cell? ⟨sx, 2, none⟩ = some (.bool s.ready) ∧ w.cell? ⟨sx, 3, none⟩ = some (.bool s.sync) ∧
  w.cell? ⟨sx, 4, none⟩ = some (.int .u64 (s.base : Nat)) ∧ w.cell? ⟨sx, 5, none⟩ = some (.int .u64 (s.stable : Nat)) ∧ w.cell? ⟨sx, 6, none⟩ = some (.int .u64 (s.last : Nat)) ∧ w.cell? ⟨sx, 7, none⟩ = some (.int .u64 (s.eosl : Nat)) ∧ w.cell? ⟨sx, 8, none⟩ = some (.int .u64 (s.low : Nat)) ∧
  w.cell? ⟨sx, 9, none⟩ = some (.slice s.ca s.cn s.cc) ∧ w.cell? ⟨sx, 10, none⟩ = some (.slice s.aa s.an s.ac) ∧ w.cell? ⟨sx, 11, none⟩ = some (.int .i64 s.fly)
theorem SnAt.cells {w : World} {sx : Nat} {s : Sn} (h : SnAt w sx s) : SnCells w sx s := by
  have hb := h.blk
  refine ⟨?_, ?_, ?_, ?_, ?_, ?_, ?_, ?_, ?_, ?_, ?_, ?_⟩ <;> (rw [hb.cell]; rfl)
structure Tree1At (w : World) (hx sx ox hb ob : Nat) (s : Sn) (A D : List Rec) : Prop where
  hc : w.cell? ⟨hx, 0, none⟩ = some (.map (some hb))
  oc : w.cell? ⟨ox, 0, none⟩ = some (.map (some ob))
  sc : SnAt w sx s
  hl : hx < w.heap.size
  ol : ox < w.heap.size
  has : ∃ n, n ≤ D.length ∧ VMap textKey w hb n (goneF (D.map deld))
  all : ∃ n, VMap recKey w ob n (opsF (isR A))
  n1 : hx ≠ hb
  n2 : ox ≠ hb
  n3 : sx ≠ hb
  n4 : ob ≠ hb
theorem Tree1At.on {w w' : World} {hx sx ox hb ob : Nat} {s : Sn} {A D : List Rec} (h : Tree1At w hx sx ox hb ob s A D) (k : Below w.heap.size w w') : Tree1At w' hx sx ox hb ob s A D := by
  obtain ⟨n1, e1, h1⟩ := h.has
  obtain ⟨n2, h2⟩ := h.all
  exact ⟨(k.cell (p := ⟨hx, 0, none⟩) h.hl).trans h.hc, (k.cell (p := ⟨ox, 0, none⟩) h.ol).trans h.oc, h.sc.on k, Nat.lt_of_lt_of_le h.hl k.size, Nat.lt_of_lt_of_le h.ol k.size, ⟨n1, e1, h1.on k⟩, ⟨n2, h2.on k⟩, h.n1, h.n2, h.n3, h.n4⟩
def Tree1End (hx sx ox hb ob : Nat) (s : Sn) (A N : List Rec) (i : Nat) (r : Rec) (w : World) (e : Ending) (w' : World) : Prop := e = .returned (.bool (badT s.stable A (prevT N i) r)) ∧ Tree1At w' hx sx ox hb ob s A (N.take (i + 1)) ∧ Mod [hb] w w'
set_option maxRecDepth 100000 in
set_option maxHeartbeats 16000000 in
theorem tree1_any (w : World) (i hx sx ox hb ob : Nat) (s : Sn) (N A : List Rec) (h : Tree1At w hx sx ox hb ob s A (N.take i)) (B : Nat) (hBw : B ≤ w.heap.size) (hBh : B ≤ hb) (hN : ∀ w', Below B w w' → RowsAt w' s.ca s.cn s.cc 4 (recsCells N)) (eN : s.cn = N.length) (bN : s.cn ≤ 1000000) (oN : ∀ r ∈ N, r.ok) (r : Rec) (hr : N[i]? = some r) :
    Calls Tryz.prog 39 #[.int .i64 i, .agg #[.string ⟨r.key.toArray⟩, .int .u64 (r.lsn : Nat), .bool r.del, .string ⟨r.val.toArray⟩], .pointer (some ⟨hx, 0, none⟩), .pointer (some ⟨sx, 0, none⟩), .pointer (some ⟨ox, 0, none⟩)] w (Tree1End hx sx ox hb ob s A N i r w) := by
  have hok := oN r (List.mem_of_getElem? hr)
  have htk := take_next N i r hr
  have HBad := Lib.hid (show badT s.stable A (prevT N i) r = ((decide (r.lsn ≤ s.stable) && !isR A r) || (match prevT N i with | none => false | some p => !decide (p.key < r.key))) from rfl)
  have HPrev := Lib.hid (show ∀ w', Below B w w' → ∀ j, i = j + 1 → ∃ (p : Rec) (g o : Nat), prevT N i = some p ∧ s.ca = some ⟨g, o, none⟩ ∧ w'.cell? ⟨g, o + j * 4, none⟩ = some (.string ⟨p.key.toArray⟩) from fun w' hw j hj => by
    have hil := (List.getElem?_eq_some_iff.1 hr).1
    obtain ⟨p, g, o, hp, _, e, _, c0, _⟩ := recs_row (hN w' hw) eN (i := j) (by omega)
    exact ⟨p, g, o, by rw [hj]; exact prevT_next N j p hp, e, c0⟩)
  have hPrev0 : i = 0 → prevT N i = none := fun e => by rw [e]; rfl
  have HI := Lib.hid (show i < s.cn ∧ i ≤ 1000000 from by have := (List.getElem?_eq_some_iff.1 hr).1; omega)
  obtain ⟨rk, rl, rd, rv⟩ := r
  have hA : Blk (w.alloc (.cells #[.string ⟨rk.toArray⟩, .int .u64 (rl : Nat), .bool rd, .string ⟨rv.toArray⟩] 49)) w.heap.size [.string ⟨rk.toArray⟩, .int .u64 (rl : Nat), .bool rd, .string ⟨rv.toArray⟩] 49 := Blk.new w [.string ⟨rk.toArray⟩, .int .u64 (rl : Nat), .bool rd, .string ⟨rv.toArray⟩] 49
  have hbn := (Below.refl w.heap.size w).alloc (Nat.le_refl _) (.cells #[.string ⟨rk.toArray⟩, .int .u64 (rl : Nat), .bool rd, .string ⟨rv.toArray⟩] 49)
  have hhl : hb < w.heap.size := by obtain ⟨_, _, hv⟩ := h.has; exact hv.lt
  have hsz : (w.alloc (.cells #[.string ⟨rk.toArray⟩, .int .u64 (rl : Nat), .bool rd, .string ⟨rv.toArray⟩] 49)).heap.size = w.heap.size + 1 := by simp
  have H := Lib.hid (h.on hbn)
  have HA := Lib.hid hA
  have HBN := Lib.hid hbn
  have HP0 := Lib.hid hPrev0
  have HOk := Lib.hid hok
  have HTk := Lib.hid htk
  have HSZ := Lib.hid hsz
  have HHL := Lib.hid hhl
  clear h hA hbn hN oN hr hPrev0 hok htk eN bN hsz hhl
  simp only at HBad HTk
  go_enter Tryz.func39, Tryz.ntmps39
  go_upto_region 1 with fail
  generalize w.alloc (.cells #[.string ⟨rk.toArray⟩, .int .u64 (rl : Nat), .bool rd, .string ⟨rv.toArray⟩] 49) = w1 at *
  obtain ⟨n1, en1, hv1⟩ := H.out.has
  obtain ⟨w2, n2, hrun, hv2, hn2, hm⟩ := gone_store hv1 (by have := HI.out; rw [List.length_take] at en1; omega) (deld ⟨rk, rl, rd, rv⟩) ⟨HOk.out.1, HOk.out.2.1, HOk.out.2.2⟩ rfl
  have hlk := gone_look hv1 rk HOk.out.1
  have hmx := fun w => max_u64 (gmax ((N.take i).map deld) rk) rl w
  rw [show (deld ⟨rk, rl, rd, rv⟩).key = rk from rfl, show (deld ⟨rk, rl, rd, rv⟩).lsn = rl from rfl] at hrun
  have k0 : w1.cell? ⟨w.heap.size, 0, none⟩ = some (.string ⟨rk.toArray⟩) := by rw [HA.out.cell]; rfl
  have k1 : w1.cell? ⟨w.heap.size, 1, none⟩ = some (.int .u64 (rl : Nat)) := by rw [HA.out.cell]; rfl
  have b0 := H.out.hc
  have hs2 := hm.size
  have HHas := Lib.hid (show ∃ n, n ≤ (N.take (i + 1)).length ∧ VMap textKey w2 hb n (goneF ((N.take (i + 1)).map deld)) from ⟨n2, by
    have := HI.out
    rw [HTk.out, List.length_append]
    simp only [List.length_singleton]
    omega, hv2.congr (fun x => by rw [HTk.out, List.map_append]; rfl)⟩)
  have HA2 := Lib.hid (HA.out.mod hm (by simp only [List.mem_singleton]; have := HHL.out; omega))
  have HT2 := Lib.hid (show Tree1At w2 hx sx ox hb ob s A (N.take (i + 1)) from by
    have hh := H.out
    obtain ⟨n, hv⟩ := hh.all
    have hmx : ∀ z, z < w1.heap.size → z ≠ hb → w2.cell? ⟨z, 0, none⟩ = w1.cell? ⟨z, 0, none⟩ := fun z hz hne => hm.cell (b := z) (i := 0) hz (by simp only [List.mem_singleton]; exact hne)
    exact ⟨(hmx hx hh.hl hh.n1).trans hh.hc, (hmx ox hh.ol hh.n2).trans hh.oc, hh.sc.mod hm (by simp only [List.mem_singleton]; exact hh.n3), Nat.lt_of_lt_of_le hh.hl hs2, Nat.lt_of_lt_of_le hh.ol hs2, HHas.out, ⟨n, hv.mod hm (by simp only [List.mem_singleton]; exact hh.n4)⟩, hh.n1, hh.n2, hh.n3, hh.n4⟩)
  have HM := Lib.hid (show Mod [hb] w w2 from (Mod.of_below HBN.out).trans hm)
  have HB2 := Lib.hid (show Below B w w2 from (HBN.out.mono hBw).trans (hm.below (fun z hz => by simp at hz; omega) (by have := HSZ.out; omega)))
  have HBw2 := Lib.hid (show B ≤ w2.heap.size by have := HSZ.out; omega)
  have HWl := Lib.hid (show w.heap.size < w2.heap.size by have := HSZ.out; omega)
  clear hv1 hv2 hm H HA
  generalize gmax ((N.take i).map deld) rk = gm at *
  go_upto_region 2 with fail
  clear hrun hlk hmx k0 k1 b0
  generalize w.heap.size = rb at *
  have HEnd := Lib.hid (show ∀ w' b, Below w2.heap.size w2 w' → badT s.stable A (prevT N i) ⟨rk, rl, rd, rv⟩ = b → Tree1End hx sx ox hb ob s A N i ⟨rk, rl, rd, rv⟩ w (.returned (.bool b)) w' from fun w' b hb' e => ⟨by rw [e], HT2.out.on hb', HM.out.thenBelow hb'⟩)
  have HF := Lib.hid (show ∀ w', Below w2.heap.size w2 w' → (w'.cell? ⟨rb, 0, none⟩ = some (.string ⟨rk.toArray⟩) ∧ w'.cell? ⟨rb, 1, none⟩ = some (.int .u64 (rl : Nat)) ∧ w'.cell? ⟨rb, 2, none⟩ = some (.bool rd) ∧ w'.cell? ⟨rb, 3, none⟩ = some (.string ⟨rv.toArray⟩) ∧ w'.cell? ⟨sx, 5, none⟩ = some (.int .u64 (s.stable : Nat)) ∧ w'.cell? ⟨sx, 9, none⟩ = some (.slice s.ca s.cn s.cc) ∧ w'.cell? ⟨ox, 0, none⟩ = some (.map (some ob)) ∧
      (Instr.lookup 71 (.map (some ob)) (.agg #[.string ⟨rk.toArray⟩, .int .u64 (rl : Nat), .bool rd, .string ⟨rv.toArray⟩]) false).run Tryz.prog w' = .ok (.int .i64 (if isR A ⟨rk, rl, rd, rv⟩ then 1 else 0)) w') from fun w' hb' => by
    have hA := HA2.out.on hb'
    have hT := HT2.out.on hb'
    obtain ⟨_, _, _, _, _, s5, _, _, _, s9, _⟩ := hT.sc.cells
    obtain ⟨n, hv⟩ := hT.all
    exact ⟨by rw [hA.cell]; rfl, by rw [hA.cell]; rfl, by rw [hA.cell]; rfl, by rw [hA.cell]; rfl, s5, s9, hT.oc, ops_look hv ⟨rk, rl, rd, rv⟩ HOk.out⟩)
  have HPr := Lib.hid (show ∀ j, i = j + 1 → ∃ (p : Rec) (g o : Nat), prevT N i = some p ∧ s.ca = some ⟨g, o, none⟩ ∧ ∀ w', Below w2.heap.size w2 w' → w'.cell? ⟨g, o + j * 4, none⟩ = some (.string ⟨p.key.toArray⟩) from fun j hj => by
    obtain ⟨p, g, o, h1, h2, _⟩ := HPrev.out w2 HB2.out j hj
    refine ⟨p, g, o, h1, h2, fun w' hb' => ?_⟩
    obtain ⟨p', g', o', h1', h2', h3'⟩ := HPrev.out w' (HB2.out.trans (hb'.mono HBw2.out)) j hj
    rw [h1] at h1'
    rw [h2] at h2'
    cases h1'
    cases h2'
    exact h3')
  clear HHas HA2 HT2 HM HB2 HBN HPrev
  generalize isR A ⟨rk, rl, rd, rv⟩ = fl at *
  obtain ⟨sc0, sc1, sc2, sc3, sbase, sst, sla, seo, slo, sca, scn, scc, saa, san, sac, sfl⟩ := s
  simp only at HBad HI HEnd HF HPr
  by_cases hle : rl ≤ sst
  · have hlei : (rl : Int) ≤ (sst : Int) := by omega
    cases fl with
    | false =>
      have HE := Lib.hid (fun w' hb' => HEnd.out w' true hb' (by rw [HBad.out, decide_eq_true hle]; rfl))
      clear hle HBad HEnd HPr
      refine wp_region_settleF (Below w2.heap.size w2) (by kernel_rfl) (by kernel_rfl) (by kernel_rfl) (below_drew (Below.refl _ _)) ?_
      repeat (first
        | (refine settled_not ?_ ?_
           · rfl
           simp only [Act.put, List.setIfInBounds_toArray, List.set_cons_zero, List.set_cons_succ])
        | (refine settled_val (v := ?_) ?_ (fun w' hS => ?_) ?_
           rotate_left
           · rfl
           · obtain ⟨k0, k1, k2, k3, k4, k5, k6, k7⟩ := HF.out w' hS
             rw [if_neg (by decide)] at k7
             go_simp
             with_reducible rfl
           simp only [Act.put, List.setIfInBounds_toArray, List.set_cons_zero, List.set_cons_succ]))
      refine settled_nil (fun w3 hS => ?_)
      have HS := Lib.hid hS
      clear hS HF
      go_wp2_with fail
      go_ret
      exact HE.out _ HS.out
    | true =>
      have HPre := Lib.hid (show (decide (rl ≤ sst) && !true) = false from by simp)
      clear hle
      rcases Nat.eq_zero_or_pos i with h0 | h0
      · have HE := Lib.hid (fun w' hb' => HEnd.out w' false hb' (by rw [HBad.out, HPre.out, HP0.out h0]; rfl))
        have hi0 : decide (0 < i) = false := decide_eq_false (by omega)
        clear HBad HEnd HPr h0
        refine wp_region_settleF (Below w2.heap.size w2) (by kernel_rfl) (by kernel_rfl) (by kernel_rfl) (below_drew (Below.refl _ _)) ?_
        repeat (first
          | (refine settled_not ?_ ?_
             · rfl
             simp only [Act.put, List.setIfInBounds_toArray, List.set_cons_zero, List.set_cons_succ])
          | (refine settled_val (v := ?_) ?_ (fun w' hS => ?_) ?_
             rotate_left
             · rfl
             · obtain ⟨k0, k1, k2, k3, k4, k5, k6, k7⟩ := HF.out w' hS
               rw [if_pos rfl] at k7
               go_simp
               with_reducible rfl
             simp only [Act.put, List.setIfInBounds_toArray, List.set_cons_zero, List.set_cons_succ]))
        refine settled_nil (fun w3 hS => ?_)
        have HS := Lib.hid hS
        clear hS HF
        go_wp2_with fail
        go_ret
        exact HE.out _ HS.out
      · obtain ⟨p, g, o, hp, e, hc⟩ := HPr.out (i - 1) (by omega)
        subst e
        have hi0 : decide (0 < i) = true := decide_eq_true (by omega)
        obtain ⟨j, hj⟩ : ∃ j, i - 1 = j := ⟨_, rfl⟩
        rw [hj] at hc
        have hji : (j : Int) < (scn : Int) := by have := HI.out; omega
        have hwr : IntKind.i64.wrap ((i : Int) - 1) = (j : Int) := by rw [show (i : Int) - 1 = (j : Int) by omega]; exact IntWalk.i64_in _ (by have := HI.out; omega)
        have HC := Lib.hid hc
        clear hc HPr h0 hj
        by_cases hlt : p.key < rk
        · have f1 : Op.bytesLess p.key rk = true := by rw [Go.Proofs.bytesLess_eq]; exact decide_eq_true hlt
          have HE := Lib.hid (fun w' hb' => HEnd.out w' false hb' (by rw [HBad.out, HPre.out, hp]; simp [hlt]))
          clear HBad HEnd hlt hp
          refine wp_region_settleF (Below w2.heap.size w2) (by kernel_rfl) (by kernel_rfl) (by kernel_rfl) (below_drew (Below.refl _ _)) ?_
          repeat (first
            | (refine settled_not ?_ ?_
               · rfl
               simp only [Act.put, List.setIfInBounds_toArray, List.set_cons_zero, List.set_cons_succ])
            | (refine settled_val (v := ?_) ?_ (fun w' hS => ?_) ?_
               rotate_left
               · rfl
               · obtain ⟨k0, k1, k2, k3, k4, k5, k6, k7⟩ := HF.out w' hS
                 have k8 := HC.out w' hS
                 rw [if_pos rfl] at k7
                 go_simp
                 with_reducible rfl
               simp only [Act.put, List.setIfInBounds_toArray, List.set_cons_zero, List.set_cons_succ]))
          refine settled_nil (fun w3 hS => ?_)
          have HS := Lib.hid hS
          clear hS HF HC
          go_wp2_with fail
          go_ret
          exact HE.out _ HS.out
        · have f1 : Op.bytesLess p.key rk = false := by rw [Go.Proofs.bytesLess_eq]; exact decide_eq_false hlt
          have HE := Lib.hid (fun w' hb' => HEnd.out w' true hb' (by rw [HBad.out, HPre.out, hp]; simp [hlt]))
          clear HBad HEnd hlt hp
          refine wp_region_settleF (Below w2.heap.size w2) (by kernel_rfl) (by kernel_rfl) (by kernel_rfl) (below_drew (Below.refl _ _)) ?_
          repeat (first
            | (refine settled_not ?_ ?_
               · rfl
               simp only [Act.put, List.setIfInBounds_toArray, List.set_cons_zero, List.set_cons_succ])
            | (refine settled_val (v := ?_) ?_ (fun w' hS => ?_) ?_
               rotate_left
               · rfl
               · obtain ⟨k0, k1, k2, k3, k4, k5, k6, k7⟩ := HF.out w' hS
                 have k8 := HC.out w' hS
                 rw [if_pos rfl] at k7
                 go_simp
                 with_reducible rfl
               simp only [Act.put, List.setIfInBounds_toArray, List.set_cons_zero, List.set_cons_succ]))
          refine settled_nil (fun w3 hS => ?_)
          have HS := Lib.hid hS
          clear hS HF HC
          go_wp2_with fail
          go_ret
          exact HE.out _ HS.out
  · have hlei : ¬ (rl : Int) ≤ (sst : Int) := by omega
    have HPre := Lib.hid (show (decide (rl ≤ sst) && !fl) = false from by rw [decide_eq_false hle]; rfl)
    clear hle
    rcases Nat.eq_zero_or_pos i with h0 | h0
    · have HE := Lib.hid (fun w' hb' => HEnd.out w' false hb' (by rw [HBad.out, HPre.out, HP0.out h0]; rfl))
      have hi0 : decide (0 < i) = false := decide_eq_false (by omega)
      clear HBad HEnd HPr h0
      refine wp_region_settleF (Below w2.heap.size w2) (by kernel_rfl) (by kernel_rfl) (by kernel_rfl) (below_drew (Below.refl _ _)) ?_
      repeat (first
        | (refine settled_not ?_ ?_
           · rfl
           simp only [Act.put, List.setIfInBounds_toArray, List.set_cons_zero, List.set_cons_succ])
        | (refine settled_val (v := ?_) ?_ (fun w' hS => ?_) ?_
           rotate_left
           · rfl
           · obtain ⟨k0, k1, k2, k3, k4, k5, k6, k7⟩ := HF.out w' hS
             go_simp
             with_reducible rfl
           simp only [Act.put, List.setIfInBounds_toArray, List.set_cons_zero, List.set_cons_succ]))
      refine settled_nil (fun w3 hS => ?_)
      have HS := Lib.hid hS
      clear hS HF
      go_wp2_with fail
      go_ret
      exact HE.out _ HS.out
    · obtain ⟨p, g, o, hp, e, hc⟩ := HPr.out (i - 1) (by omega)
      subst e
      have hi0 : decide (0 < i) = true := decide_eq_true (by omega)
      obtain ⟨j, hj⟩ : ∃ j, i - 1 = j := ⟨_, rfl⟩
      rw [hj] at hc
      have hji : (j : Int) < (scn : Int) := by have := HI.out; omega
      have hwr : IntKind.i64.wrap ((i : Int) - 1) = (j : Int) := by rw [show (i : Int) - 1 = (j : Int) by omega]; exact IntWalk.i64_in _ (by have := HI.out; omega)
      have HC := Lib.hid hc
      clear hc HPr h0 hj
      by_cases hlt : p.key < rk
      · have f1 : Op.bytesLess p.key rk = true := by rw [Go.Proofs.bytesLess_eq]; exact decide_eq_true hlt
        have HE := Lib.hid (fun w' hb' => HEnd.out w' false hb' (by rw [HBad.out, HPre.out, hp]; simp [hlt]))
        clear HBad HEnd hlt hp
        refine wp_region_settleF (Below w2.heap.size w2) (by kernel_rfl) (by kernel_rfl) (by kernel_rfl) (below_drew (Below.refl _ _)) ?_
        repeat (first
          | (refine settled_not ?_ ?_
             · rfl
             simp only [Act.put, List.setIfInBounds_toArray, List.set_cons_zero, List.set_cons_succ])
          | (refine settled_val (v := ?_) ?_ (fun w' hS => ?_) ?_
             rotate_left
             · rfl
             · obtain ⟨k0, k1, k2, k3, k4, k5, k6, k7⟩ := HF.out w' hS
               have k8 := HC.out w' hS
               go_simp
               with_reducible rfl
             simp only [Act.put, List.setIfInBounds_toArray, List.set_cons_zero, List.set_cons_succ]))
        refine settled_nil (fun w3 hS => ?_)
        have HS := Lib.hid hS
        clear hS HF HC
        go_wp2_with fail
        go_ret
        exact HE.out _ HS.out
      · have f1 : Op.bytesLess p.key rk = false := by rw [Go.Proofs.bytesLess_eq]; exact decide_eq_false hlt
        have HE := Lib.hid (fun w' hb' => HEnd.out w' true hb' (by rw [HBad.out, HPre.out, hp]; simp [hlt]))
        clear HBad HEnd hlt hp
        refine wp_region_settleF (Below w2.heap.size w2) (by kernel_rfl) (by kernel_rfl) (by kernel_rfl) (below_drew (Below.refl _ _)) ?_
        repeat (first
          | (refine settled_not ?_ ?_
             · rfl
             simp only [Act.put, List.setIfInBounds_toArray, List.set_cons_zero, List.set_cons_succ])
          | (refine settled_val (v := ?_) ?_ (fun w' hS => ?_) ?_
             rotate_left
             · rfl
             · obtain ⟨k0, k1, k2, k3, k4, k5, k6, k7⟩ := HF.out w' hS
               have k8 := HC.out w' hS
               go_simp
               with_reducible rfl
             simp only [Act.put, List.setIfInBounds_toArray, List.set_cons_zero, List.set_cons_succ]))
        refine settled_nil (fun w3 hS => ?_)
        have HS := Lib.hid hS
        clear hS HF HC
        go_wp2_with fail
        go_ret
        exact HE.out _ HS.out

set_option maxRecDepth 100000 in
set_option maxHeartbeats 8000000 in
theorem firstT_any (w : World) (hx sx ox hb ob : Nat) (s : Sn) (N A : List Rec) (h : Tree1At w hx sx ox hb ob s A []) (B : Nat) (hBw : B ≤ w.heap.size) (hBh : B ≤ hb) (hN : ∀ w', Below B w w' → RowsAt w' s.ca s.cn s.cc 4 (recsCells N)) (eN : s.cn = N.length) (bN : s.cn ≤ 1000000) (oN : ∀ r ∈ N, r.ok) :
    Calls Tryz.prog 38 #[.slice s.ca s.cn s.cc, .func (.func 39) #[] #[.pointer (some ⟨hx, 0, none⟩), .pointer (some ⟨sx, 0, none⟩), .pointer (some ⟨ox, 0, none⟩)]] w fun e w' => e = .returned (.int .i64 (scanT s.stable A none 0 N)) ∧ (scanT s.stable A none 0 N = -1 → Tree1At w' hx sx ox hb ob s A N) ∧ Below B w w' ∧ Mod [hb] w w' := by
  have HNN := Lib.hid hN
  have HO := Lib.hid oN
  have HT := Lib.hid h
  have HEN := Lib.hid eN
  clear hN oN h
  obtain ⟨ca, hca⟩ : ∃ a, s.ca = a := ⟨_, rfl⟩
  obtain ⟨n, hn⟩ : ∃ n, s.cn = n := ⟨_, rfl⟩
  obtain ⟨cc, hcc⟩ : ∃ c, s.cc = c := ⟨_, rfl⟩
  rw [hca, hn, hcc] at HNN ⊢
  rw [hn] at HEN bN
  clear eN
  have HCn := Lib.hid hn
  have HCa := Lib.hid hca
  have HCc := Lib.hid hcc
  have hst0 : scanT s.stable A none 0 N = scanT s.stable A (prevT N 0) 0 (N.drop 0) := rfl
  have HS0 := Lib.hid hst0
  clear hst0 hn hca hcc
  go_enter Tryz.func38, Tryz.ntmps38
  go_wp2_with fail
  go_loopw [4, 5, 6, 9] (fun _ _ _ s9 wr => ∃ i : Nat, i ≤ n ∧ s9 = .int .i64 i ∧ Tree1At wr hx sx ox hb ob s A (N.take i) ∧ scanT s.stable A none 0 N = scanT s.stable A (prevT N i) i (N.drop i) ∧ Below B w wr ∧ Mod [hb] w wr) (fun _ _ _ s9 _ => n - (intOf s9).toNat)
  case atStart => exact ⟨0, by omega, rfl, HT.out, HS0.out, Below.refl _ _, Mod.refl _ _⟩
  case round =>
    obtain ⟨i, hi, rfl, hk, hs, hb', hm'⟩ := hrel
    by_cases hlt : i < n
    · have hil : (i : Int) < (n : Int) := by omega
      obtain ⟨r, g, o, hr, hrm, rfl, hg, d0, d1, d2, d3⟩ := recs_row (HNN.out wr hb') HEN.out hlt
      have HNx := Lib.hid (show scanT s.stable A none 0 N = if badT s.stable A (prevT N i) r then (i : Int) else scanT s.stable A (prevT N (i + 1)) (i + 1) (N.drop (i + 1)) by rw [hs]; exact scanT_step s.stable A N i r hr)
      have hsB := Nat.le_trans hBw hb'.size
      obtain ⟨rk, rl, rd, rv⟩ := r
      simp only at d0 d1 d2 d3
      have hBn := (Below.refl wr.heap.size wr).alloc (Nat.le_refl _) (.cells #[.string ⟨rk.toArray⟩, .int .u64 (rl : Nat), .bool rd, .string ⟨rv.toArray⟩] 49)
      have hb2 := hb'.trans (hBn.mono hsB)
      have HS := Lib.hid (tree1_any (wr.alloc (.cells #[.string ⟨rk.toArray⟩, .int .u64 (rl : Nat), .bool rd, .string ⟨rv.toArray⟩] 49)) i hx sx ox hb ob s N A (hk.on hBn) B (Nat.le_trans hsB hBn.size) hBh (fun w' hw => by rw [HCa.out, HCn.out, HCc.out]; exact HNN.out w' (hb2.trans hw)) (by rw [HCn.out]; exact HEN.out) (by rw [HCn.out]; exact bN) HO.out ⟨rk, rl, rd, rv⟩ hr)
      simp only at HS
      have HM := Lib.hid (hm'.thenBelow hBn)
      have HB := Lib.hid hb2
      have HSz := Lib.hid (Nat.le_trans hsB hBn.size)
      clear hs hr hrm hk hb' hm' hBn hb2
      go_wp2_with fail
      refine HS.out.mono ?_
      rintro e w2 ⟨rfl, hk2, hm⟩
      have HB2 := Lib.hid (HB.out.trans (hm.below (fun y hy => by simp only [List.mem_singleton] at hy; rw [hy]; exact hBh) HSz.out))
      have HM2 := Lib.hid (HM.out.trans hm)
      have HK2 := Lib.hid hk2
      clear hk2 hm
      cases hak : badT s.stable A (prevT N i) ⟨rk, rl, rd, rv⟩ with
      | true =>
        have HR := Lib.hid (show scanT s.stable A none 0 N = (i : Int) by rw [HNx.out, hak]; rfl)
        clear hak
        go_wp2_with fail
        go_ret
        exact ⟨by rw [HR.out]; try rfl, fun h => by rw [HR.out] at h; omega, HB2.out, HM2.out⟩
      | false =>
        have HR := Lib.hid (show scanT s.stable A none 0 N = scanT s.stable A (prevT N (i + 1)) (i + 1) (N.drop (i + 1)) by rw [HNx.out, hak]; rfl)
        clear hak
        go_wp2_with fail
        go_roundw
        case rel => exact ⟨i + 1, by omega, by go_num, HK2.out, HR.out, HB2.out, HM2.out⟩
        case measure => simp [intOf]; omega
    · have hge : ¬ (i : Int) < (n : Int) := by omega
      have HR := Lib.hid (show scanT s.stable A none 0 N = -1 by
        rw [hs, List.drop_eq_nil_of_le (by rw [← HEN.out]; omega)]; rfl)
      rw [List.take_of_length_le (by rw [← HEN.out]; omega)] at hk
      have HB := Lib.hid hb'
      have HK := Lib.hid hk
      have HM := Lib.hid hm'
      clear hs hb' hk hm'
      go_wp2_with fail
      go_ret
      exact ⟨by rw [HR.out]; try rfl, fun _ => HK.out, HB.out, HM.out⟩
structure Tree2At (w : World) (sx tx hx dx tb hb db : Nat) (s : Sn) (N A : List Rec) : Prop where
  tc : w.cell? ⟨tx, 0, none⟩ = some (.map (some tb))
  hc : w.cell? ⟨hx, 0, none⟩ = some (.map (some hb))
  dc : w.cell? ⟨dx, 0, none⟩ = some (.map (some db))
  sc : SnAt w sx s
  tl : tx < w.heap.size
  hl : hx < w.heap.size
  dl : dx < w.heap.size
  there : ∃ n, VMap textKey w tb n (thereF N)
  has : ∃ n, VMap textKey w hb n (goneF (N.map deld))
  dels : ∃ n, VMap textKey w db n (goneF A)
theorem Tree2At.on {w w' : World} {sx tx hx dx tb hb db : Nat} {s : Sn} {N A : List Rec} (h : Tree2At w sx tx hx dx tb hb db s N A) (k : Below w.heap.size w w') : Tree2At w' sx tx hx dx tb hb db s N A := by
  obtain ⟨n1, h1⟩ := h.there
  obtain ⟨n2, h2⟩ := h.has
  obtain ⟨n3, h3⟩ := h.dels
  exact ⟨(k.cell (p := ⟨tx, 0, none⟩) h.tl).trans h.tc, (k.cell (p := ⟨hx, 0, none⟩) h.hl).trans h.hc, (k.cell (p := ⟨dx, 0, none⟩) h.dl).trans h.dc, h.sc.on k, Nat.lt_of_lt_of_le h.tl k.size, Nat.lt_of_lt_of_le h.hl k.size, Nat.lt_of_lt_of_le h.dl k.size, ⟨n1, h1.on k⟩, ⟨n2, h2.on k⟩, ⟨n3, h3.on k⟩⟩
set_option maxRecDepth 100000 in
set_option maxHeartbeats 16000000 in
theorem tree2_any (w : World) (i : Int) (sx tx hx dx tb hb db : Nat) (s : Sn) (N A : List Rec) (h : Tree2At w sx tx hx dx tb hb db s N A) (r : Rec) (hok : r.ok) :
    Calls Tryz.prog 40 #[.int .i64 i, .agg #[.string ⟨r.key.toArray⟩, .int .u64 (r.lsn : Nat), .bool r.del, .string ⟨r.val.toArray⟩], .pointer (some ⟨sx, 0, none⟩), .pointer (some ⟨tx, 0, none⟩), .pointer (some ⟨hx, 0, none⟩), .pointer (some ⟨dx, 0, none⟩)] w fun e w' => e = .returned (.bool (badO s.last s.stable s.low N A r)) ∧ Below w.heap.size w w' := by
  obtain ⟨rk, rl, rd, rv⟩ := r
  have hbn := (Below.refl w.heap.size w).alloc (Nat.le_refl _) (.cells #[.string ⟨rk.toArray⟩, .int .u64 (rl : Nat), .bool rd, .string ⟨rv.toArray⟩] 49)
  have hA : Blk (w.alloc (.cells #[.string ⟨rk.toArray⟩, .int .u64 (rl : Nat), .bool rd, .string ⟨rv.toArray⟩] 49)) w.heap.size [.string ⟨rk.toArray⟩, .int .u64 (rl : Nat), .bool rd, .string ⟨rv.toArray⟩] 49 := Blk.new w [.string ⟨rk.toArray⟩, .int .u64 (rl : Nat), .bool rd, .string ⟨rv.toArray⟩] 49
  have H := Lib.hid (h.on hbn)
  have HA := Lib.hid hA
  have HBN := Lib.hid hbn
  clear h hA hbn
  have HX := Lib.hid (show badO s.last s.stable s.low N A ⟨rk, rl, rd, rv⟩ = (decide (s.last ≤ s.stable) && (decide (rl ≤ s.low) && (!rd && (!(knownR N rk && decide (rl ≤ gmax (N.map deld) rk)) && decide (gmax A rk ≤ rl))))) from rfl)
  obtain ⟨bad, hbad⟩ : ∃ b, badO s.last s.stable s.low N A ⟨rk, rl, rd, rv⟩ = b := ⟨_, rfl⟩
  rw [hbad] at HX ⊢
  clear hbad
  go_enter Tryz.func40, Tryz.ntmps40
  go_upto_region 1 with fail
  generalize w.alloc (.cells #[.string ⟨rk.toArray⟩, .int .u64 (rl : Nat), .bool rd, .string ⟨rv.toArray⟩] 49) = w1 at *
  have k0 : w1.cell? ⟨w.heap.size, 0, none⟩ = some (.string ⟨rk.toArray⟩) := by rw [HA.out.cell]; rfl
  have k1 : w1.cell? ⟨w.heap.size, 1, none⟩ = some (.int .u64 (rl : Nat)) := by rw [HA.out.cell]; rfl
  have k2 : w1.cell? ⟨w.heap.size, 2, none⟩ = some (.bool rd) := by rw [HA.out.cell]; rfl
  have b0 := H.out.tc
  have b1 := H.out.hc
  have b2 := H.out.dc
  obtain ⟨nt, ht⟩ := H.out.there
  obtain ⟨nh, hh⟩ := H.out.has
  obtain ⟨nd, hd⟩ := H.out.dels
  have l0 := there_look ht rk hok.1
  have l1 := gone_look hh rk hok.1
  have l2 := gone_look hd rk hok.1
  obtain ⟨_, _, _, _, _, s5, s6, _, s8, _⟩ := H.out.sc.cells
  clear ht hh hd H HA
  generalize gmax (N.map deld) rk = gm at *
  generalize gmax A rk = gd at *
  generalize s.last = sla at *
  generalize s.stable = sst at *
  generalize s.low = slo at *
  by_cases h1 : sla ≤ sst
  · have e1 : (sla : Int) ≤ (sst : Int) := by omega
    by_cases h2 : rl ≤ slo
    · have e2 : (rl : Int) ≤ (slo : Int) := by omega
      cases rd with
      | true =>
        have HY := Lib.hid (show bad = false by rw [HX.out]; simp)
        clear h1 h2 HX l0 l1 l2
        go_wp2_with fail
        go_ret
        exact ⟨by rw [HY.out]; try rfl, HBN.out⟩
      | false =>
        cases hk : knownR N rk with
        | true =>
          rw [hk, if_pos rfl] at l0
          by_cases h3 : rl ≤ gm
          · have e3 : (gm : Int) ≥ (rl : Int) := by omega
            have HY := Lib.hid (show bad = false by rw [HX.out, hk, decide_eq_true h3]; simp)
            clear h1 h2 h3 hk HX l2
            go_wp2_with fail
            go_ret
            exact ⟨by rw [HY.out]; try rfl, HBN.out⟩
          · have e3 : ¬ (gm : Int) ≥ (rl : Int) := by omega
            by_cases h4 : gd ≤ rl
            · have e4 : (gd : Int) ≤ (rl : Int) := by omega
              have HY := Lib.hid (show bad = true by rw [HX.out, hk, decide_eq_true h1, decide_eq_true h2, decide_eq_false h3, decide_eq_true h4]; rfl)
              clear h1 h2 h3 h4 hk HX
              go_wp2_with fail
              go_ret
              exact ⟨by rw [HY.out]; try rfl, HBN.out⟩
            · have e4 : ¬ (gd : Int) ≤ (rl : Int) := by omega
              have HY := Lib.hid (show bad = false by rw [HX.out, decide_eq_false h4]; simp)
              clear h1 h2 h3 h4 hk HX
              go_wp2_with fail
              go_ret
              exact ⟨by rw [HY.out]; try rfl, HBN.out⟩
        | false =>
          rw [hk, if_neg (by decide)] at l0
          by_cases h4 : gd ≤ rl
          · have e4 : (gd : Int) ≤ (rl : Int) := by omega
            have HY := Lib.hid (show bad = true by rw [HX.out, hk, decide_eq_true h1, decide_eq_true h2, decide_eq_true h4]; rfl)
            clear h1 h2 h4 hk HX l1
            go_wp2_with fail
            go_ret
            exact ⟨by rw [HY.out]; try rfl, HBN.out⟩
          · have e4 : ¬ (gd : Int) ≤ (rl : Int) := by omega
            have HY := Lib.hid (show bad = false by rw [HX.out, decide_eq_false h4]; simp)
            clear h1 h2 h4 hk HX l1
            go_wp2_with fail
            go_ret
            exact ⟨by rw [HY.out]; try rfl, HBN.out⟩
    · have e2 : ¬ (rl : Int) ≤ (slo : Int) := by omega
      have HY := Lib.hid (show bad = false by rw [HX.out, decide_eq_false h2]; simp)
      clear h1 h2 HX l0 l1 l2
      go_wp2_with fail
      go_ret
      exact ⟨by rw [HY.out]; try rfl, HBN.out⟩
  · have e1 : ¬ (sla : Int) ≤ (sst : Int) := by omega
    have HY := Lib.hid (show bad = false by rw [HX.out, decide_eq_false h1]; rfl)
    clear h1 HX l0 l1 l2
    go_wp2_with fail
    go_ret
    exact ⟨by rw [HY.out]; try rfl, HBN.out⟩
set_option maxRecDepth 100000 in
set_option maxHeartbeats 8000000 in
theorem firstO_any (w : World) (sx tx hx dx tb hb db : Nat) (s : Sn) (N A : List Rec) (h : Tree2At w sx tx hx dx tb hb db s N A)
    (aw : Option Addr) (nw cw : Nat) (hW : RowsAt w aw nw cw 4 (recsCells A)) (eW : nw = A.length) (bW : nw ≤ 1000000) (hok : ∀ r ∈ A, r.ok) :
    Calls Tryz.prog 38 #[.slice aw nw cw, .func (.func 40) #[] #[.pointer (some ⟨sx, 0, none⟩), .pointer (some ⟨tx, 0, none⟩), .pointer (some ⟨hx, 0, none⟩), .pointer (some ⟨dx, 0, none⟩)]] w fun e w' => e = .returned (.int .i64 (firstR (badO s.last s.stable s.low N A) 0 A)) ∧ Below w.heap.size w w' := by
  have H := Lib.hid h
  have HW := Lib.hid hW
  have EW := Lib.hid eW
  have HO := Lib.hid hok
  obtain ⟨f, hf⟩ : ∃ f, badO s.last s.stable s.low N A = f := ⟨_, rfl⟩
  rw [hf]
  have HFf := Lib.hid hf
  clear h hW eW hok hf
  go_enter Tryz.func38, Tryz.ntmps38
  go_wp2_with fail
  go_loopw [4, 5, 6, 9] (fun _ _ _ s9 wr => ∃ i : Nat, i ≤ nw ∧ s9 = .int .i64 i ∧ firstR f 0 A = firstR f i (A.drop i) ∧ Below w.heap.size w wr) (fun _ _ _ s9 _ => nw - (intOf s9).toNat)
  case atStart => exact ⟨0, by omega, rfl, rfl, Below.refl _ _⟩
  case round =>
    obtain ⟨i, hi, rfl, hfi, hb'⟩ := hrel
    by_cases hlt : i < nw
    · have hil : (i : Int) < (nw : Int) := by omega
      obtain ⟨r, g, o, hr, hrl, rfl, hg, d0, d1, d2, d3⟩ := recs_row (HW.out.on hb') EW.out hlt
      have HN := Lib.hid (show firstR f 0 A = if f r then (i : Int) else firstR f (i + 1) (A.drop (i + 1)) by rw [hfi, firstR_step _ _ _ _ hr])
      have HOr := Lib.hid (HO.out r hrl)
      obtain ⟨rk, rl, rd, rv⟩ := r
      simp only at d0 d1 d2 d3
      have hBn := (Below.refl wr.heap.size wr).alloc (Nat.le_refl _) (.cells #[.string ⟨rk.toArray⟩, .int .u64 (rl : Nat), .bool rd, .string ⟨rv.toArray⟩] 49)
      have HB := Lib.hid (hb'.trans (hBn.mono hb'.size))
      have HS := Lib.hid (tree2_any (wr.alloc (.cells #[.string ⟨rk.toArray⟩, .int .u64 (rl : Nat), .bool rd, .string ⟨rv.toArray⟩] 49)) i sx tx hx dx tb hb db s N A (H.out.on HB.out) ⟨rk, rl, rd, rv⟩ HOr.out)
      rw [HFf.out] at HS
      simp only at HS
      clear hfi hr hrl hb' hBn
      go_wp2_with fail
      refine HS.out.mono ?_
      rintro e w2 ⟨rfl, hb2⟩
      have HB2 := Lib.hid (HB.out.trans (hb2.mono HB.out.size))
      clear hb2
      cases hak : f ⟨rk, rl, rd, rv⟩ with
      | true =>
        have HR := Lib.hid (show firstR f 0 A = (i : Int) by rw [HN.out, hak]; rfl)
        clear hak
        go_wp2_with fail
        go_ret
        exact ⟨by rw [HR.out]; try rfl, HB2.out⟩
      | false =>
        have HR := Lib.hid (show firstR f 0 A = firstR f (i + 1) (A.drop (i + 1)) by rw [HN.out, hak]; rfl)
        clear hak
        go_wp2_with fail
        go_roundw
        case rel => exact ⟨i + 1, by omega, by go_num, HR.out, HB2.out⟩
        case measure => simp [intOf]; omega
    · have hge : ¬ (i : Int) < (nw : Int) := by omega
      have HR := Lib.hid (show firstR f 0 A = -1 by
        have hin : i = A.length := by rw [← EW.out]; omega
        rw [hfi, hin, List.drop_eq_nil_of_le (Nat.le_refl _)]; rfl)
      have HB := Lib.hid hb'
      clear hfi hb'
      go_wp2_with fail
      go_ret
      exact ⟨by rw [HR.out]; try rfl, HB.out⟩

end Go.Proofs.YtecknikehieioaaGreat
