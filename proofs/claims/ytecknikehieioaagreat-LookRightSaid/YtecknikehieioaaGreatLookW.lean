/-
  look.Tree: the first record that should not be there, or operation that is not. Conditions: at most a hundred thousand records, a thousand entries of a thousand operations. (Printed by gen_lookw.py.)
-/
import Derived.Test.YtecknikehieioaaGreatLookK
namespace Go.Proofs.YtecknikehieioaaGreat
set_option linter.unusedVariables false
set_option linter.unusedSimpArgs false
open Go.RowKit Go.Maps

theorem info_rec : (Tryz.prog.info? 49).map (fun i => (i.zero, i.size, i.bytes)) = some (some (.agg #[.string ⟨#[]⟩, .int .u64 0, .bool false, .string ⟨#[]⟩]), 4, 48) := by kernel_rfl
theorem recs_append (l m : List Rec) : recsCells (l ++ m) = recsCells l ++ recsCells m := by unfold recsCells; rw [List.flatMap_append]
theorem recs_one (l : List Rec) : ∀ u ∈ recsCells l, u.oneCell' = true := by
  intro u hu
  unfold recsCells at hu
  obtain ⟨r, _, hr⟩ := List.mem_flatMap.1 hu
  simp only [recCells, List.mem_cons, List.not_mem_nil, or_false] at hr
  rcases hr with rfl | rfl | rfl | rfl <;> rfl
theorem made_rec (w : World) : ∃ (b : Nat) (w' : World), b = w.heap.size ∧ (Instr.makeMap 71 none).run Tryz.prog w = .ok (.map (some b)) w' ∧ VMap recKey w' b 0 (fun _ => none) ∧ Below w.heap.size w w' ∧ w'.heap.size = w.heap.size + 1 :=
  ⟨w.heap.size, _, rfl, VMap.made_run (w := w) (k := 49) (e := 3) (t := 71) Tryz.underlying71, VMap.made recKey w, (Below.refl w.heap.size w).alloc (Nat.le_refl _) _, by simp⟩
theorem made_tu (w : World) : ∃ (b : Nat) (w' : World), b = w.heap.size ∧ (Instr.makeMap 72 none).run Tryz.prog w = .ok (.map (some b)) w' ∧ VMap textKey w' b 0 (fun _ => none) ∧ Below w.heap.size w w' ∧ w'.heap.size = w.heap.size + 1 :=
  ⟨w.heap.size, _, rfl, VMap.made_run (w := w) (k := 9) (e := 32) (t := 72) Tryz.underlying72, VMap.made textKey w, (Below.refl w.heap.size w).alloc (Nat.le_refl _) _, by simp⟩
theorem made_ti (w : World) : ∃ (b : Nat) (w' : World), b = w.heap.size ∧ (Instr.makeMap 75 none).run Tryz.prog w = .ok (.map (some b)) w' ∧ VMap textKey w' b 0 (fun _ => none) ∧ Below w.heap.size w w' ∧ w'.heap.size = w.heap.size + 1 :=
  ⟨w.heap.size, _, rfl, VMap.made_run (w := w) (k := 9) (e := 3) (t := 75) Tryz.underlying75, VMap.made textKey w, (Below.refl w.heap.size w).alloc (Nat.le_refl _) _, by simp⟩
/-- What Tree's two loops over the log have gathered. -/
structure TreeSt (w6 : World) (ob db : Nat) (v : Value) (A : List Rec) (w : World) : Prop where
  own : w.ownsRow w6.heap.size 49 4 v A.length (recsCells A)
  ops : ∃ k, k ≤ A.length ∧ VMap recKey w ob k (opsF (isR A))
  dels : ∃ k, k ≤ A.length ∧ VMap textKey w db k (goneF A)
  mod : Mod [ob, db] w6 w
theorem TreeSt.on {w6 : World} {ob db : Nat} {v : Value} {A : List Rec} {w w' : World} (h : TreeSt w6 ob db v A w) (hb : Below w.heap.size w w') : TreeSt w6 ob db v A w' := by
  obtain ⟨k1, e1, h1⟩ := h.ops
  obtain ⟨k2, e2, h2⟩ := h.dels
  exact ⟨ownsRow_mod h.own (Mod.of_below hb (S := [])) (by simp), ⟨k1, e1, h1.on hb⟩, ⟨k2, e2, h2.on hb⟩, h.mod.thenBelow hb⟩
def TreeEnd (s : Sn) (N A : List Rec) (w : World) (e : Ending) (w' : World) : Prop := e = .returned (.int .i64 (treeL (s.dcUp && s.sync) s.last s.stable s.low N A)) ∧ Below w.heap.size w w'
theorem opsOf_len (L : List Entry) (h : ∀ x ∈ L, x.ops.length ≤ 1000) (i : Nat) : (doneOps L i).length ≤ 1000 * i := by
  induction i with
  | zero => simp [doneOps, opsOf]
  | succ i ih =>
    rcases Nat.lt_or_ge i L.length with hi | hi
    · rw [doneOps_next L i L[i] (List.getElem?_eq_getElem hi), List.length_append]
      have := h L[i] (List.getElem_mem hi)
      omega
    · unfold doneOps at *
      rw [List.take_of_length_le (by omega)]
      rw [List.take_of_length_le hi] at ih
      omega
set_option maxRecDepth 100000 in
set_option maxHeartbeats 16000000 in
theorem tree_any (w : World) (s : Sn) (N : List Rec) (hN : RowsAt w s.ca s.cn s.cc 4 (recsCells N)) (eN : s.cn = N.length) (bN : s.cn ≤ 100000) (oN : ∀ r ∈ N, r.ok) (a : Option Addr) (n c : Nat) (z : List EZ) (h : EntsAt w a n c z) (hn : n ≤ 1000) (hops : ∀ q ∈ z, q.2.ops.length ≤ 1000) :
    Calls Tryz.prog 17 #[.agg (snCells s).toArray, .slice a n c] w (TreeEnd s N (opsOf (z.map (·.2))) w) := by
  obtain ⟨L, hL⟩ : ∃ L, z.map (·.2) = L := ⟨_, rfl⟩
  have HLen := Lib.hid (show L.length = n by rw [← hL, List.length_map]; exact h.len)
  have HLo := Lib.hid (show ∀ x ∈ L, x.ops.length ≤ 1000 from fun x hx => by
    rw [← hL] at hx
    obtain ⟨q, hq, rfl⟩ := List.mem_map.1 hx
    exact hops q hq)
  have HAok := Lib.hid (show ∀ r ∈ opsOf L, r.ok from fun r hr => by
    obtain ⟨x, hx, hr⟩ := List.mem_flatMap.1 hr
    rw [← hL] at hx
    obtain ⟨q, hq, rfl⟩ := List.mem_map.1 hx
    exact (h.each q hq).ok.ops r hr)
  rw [hL]
  have HL := Lib.hid hL
  have HH := Lib.hid h
  have HN := Lib.hid hN
  have EN := Lib.hid eN
  have ON := Lib.hid oN
  have HKL := Lib.hid (show treeL (s.dcUp && s.sync) s.last s.stable s.low N (opsOf L) = if (s.dcUp && s.sync) = true then (if 0 ≤ scanT s.stable (opsOf L) none 0 N then scanT s.stable (opsOf L) none 0 N else if firstR (badO s.last s.stable s.low N (opsOf L)) 0 (opsOf L) < 0 then -1 else N.length + firstR (badO s.last s.stable s.low N (opsOf L)) 0 (opsOf L)) else -1 from rfl)
  unfold TreeEnd
  obtain ⟨tv, htv⟩ : ∃ t, treeL (s.dcUp && s.sync) s.last s.stable s.low N (opsOf L) = t := ⟨_, rfl⟩
  rw [htv] at HKL ⊢
  clear hL h hN eN oN hops htv
  obtain ⟨tcUp, dcUp, ready, sync, base, stable, last, eosl, low, ca, cn, cc, aa, an, ac, fly⟩ := s
  simp only at HN EN bN HKL
  show Calls Tryz.prog 17 #[.agg #[.bool tcUp, .bool dcUp, .bool ready, .bool sync, .int .u64 (base : Nat), .int .u64 (stable : Nat), .int .u64 (last : Nat), .int .u64 (eosl : Nat), .int .u64 (low : Nat), .slice ca cn cc, .slice aa an ac, .int .i64 fly], .slice a n c] w _
  have hA : Blk (w.alloc (.cells #[.bool tcUp, .bool dcUp, .bool ready, .bool sync, .int .u64 (base : Nat), .int .u64 (stable : Nat), .int .u64 (last : Nat), .int .u64 (eosl : Nat), .int .u64 (low : Nat), .slice ca cn cc, .slice aa an ac, .int .i64 fly] 47)) w.heap.size (snCells (⟨tcUp, dcUp, ready, sync, base, stable, last, eosl, low, ca, cn, cc, aa, an, ac, fly⟩ : Sn)) 47 := Blk.new w (snCells (⟨tcUp, dcUp, ready, sync, base, stable, last, eosl, low, ca, cn, cc, aa, an, ac, fly⟩ : Sn)) 47
  have hbn := (Below.refl w.heap.size w).alloc (Nat.le_refl _) (.cells #[.bool tcUp, .bool dcUp, .bool ready, .bool sync, .int .u64 (base : Nat), .int .u64 (stable : Nat), .int .u64 (last : Nat), .int .u64 (eosl : Nat), .int .u64 (low : Nat), .slice ca cn cc, .slice aa an ac, .int .i64 fly] 47)
  have hsz1 : (w.alloc (.cells #[.bool tcUp, .bool dcUp, .bool ready, .bool sync, .int .u64 (base : Nat), .int .u64 (stable : Nat), .int .u64 (last : Nat), .int .u64 (eosl : Nat), .int .u64 (low : Nat), .slice ca cn cc, .slice aa an ac, .int .i64 fly] 47)).heap.size = w.heap.size + 1 := by simp
  go_enter Tryz.func17, Tryz.ntmps17
  go_upto_region 1 with fail
  generalize w.alloc (.cells #[.bool tcUp, .bool dcUp, .bool ready, .bool sync, .int .u64 (base : Nat), .int .u64 (stable : Nat), .int .u64 (last : Nat), .int .u64 (eosl : Nat), .int .u64 (low : Nat), .slice ca cn cc, .slice aa an ac, .int .i64 fly] 47) = w1 at *
  have c1 : w1.cell? ⟨w.heap.size, 1, none⟩ = some (.bool dcUp) := by rw [hA.cell]; rfl
  have c3 : w1.cell? ⟨w.heap.size, 3, none⟩ = some (.bool sync) := by rw [hA.cell]; rfl
  have HA := Lib.hid (show SnAt w1 w.heap.size (⟨tcUp, dcUp, ready, sync, base, stable, last, eosl, low, ca, cn, cc, aa, an, ac, fly⟩ : Sn) from ⟨hA⟩)
  have HBN := Lib.hid hbn
  have HSz := Lib.hid hsz1
  clear hA hbn hsz1
  cases dcUp with
  | false =>
    have HR := Lib.hid (show tv = -1 by rw [HKL.out]; rfl)
    go_wp2_with fail
    go_ret
    exact ⟨by rw [HR.out]; try rfl, HBN.out⟩
  | true =>
    cases sync with
    | false =>
      have HR := Lib.hid (show tv = -1 by rw [HKL.out]; rfl)
      go_wp2_with fail
      go_ret
      exact ⟨by rw [HR.out]; try rfl, HBN.out⟩
    | true =>
      rw [show (true && true) = true from rfl, if_pos rfl] at HKL
      obtain ⟨ob, w2, hob, hr2, hv2, hb2, hs2⟩ := made_rec w1
      have HS2 := Lib.hid (And.intro hob hs2)
      clear hob hs2
      go_upto_region 4 with fail
      clear hr2 c1 c3
      have hx := (Below.refl w2.heap.size w2).alloc (Nat.le_refl _) (.cells #[.map (some ob)] 71)
      have hk : Blk (w2.alloc (.cells #[.map (some ob)] 71)) w2.heap.size [.map (some ob)] 71 := Blk.new w2 [.map (some ob)] 71
      have hs3 : (w2.alloc (.cells #[.map (some ob)] 71)).heap.size = w2.heap.size + 1 := by simp
      obtain ⟨ox, hox⟩ : ∃ x, w2.heap.size = x := ⟨_, rfl⟩
      have HB3 := Lib.hid (hb2.trans (hx.mono (by have := HS2.out; omega)))
      have HVo := Lib.hid (hv2.on hx)
      generalize w2.alloc (.cells #[.map (some ob)] 71) = w3 at *
      rw [hox] at hk hs3
      have HKo := Lib.hid hk
      have HP3 := Lib.hid (show ob = w1.heap.size ∧ ox = w1.heap.size + 1 ∧ w3.heap.size = w1.heap.size + 2 by have := HS2.out; omega)
      simp only [hox]
      clear hx hk hs3 hox hb2 hv2 HS2
      obtain ⟨db, w4, hdb, hr4, hv4, hb4, hs4⟩ := made_tu w3
      obtain ⟨hb, w5, hhb, hr5, hv5, hb5, hs5⟩ := made_tu w4
      have HS5 := Lib.hid (show db = w3.heap.size ∧ w4.heap.size = w3.heap.size + 1 ∧ hb = w4.heap.size ∧ w5.heap.size = w4.heap.size + 1 from ⟨hdb, hs4, hhb, hs5⟩)
      clear hdb hs4 hhb hs5
      go_upto_region 6 with fail
      clear hr4 hr5
      have hx0 := (Below.refl w5.heap.size w5).alloc (Nat.le_refl _) (.cells #[.map (some db)] 72)
      have hx1 := hx0.alloc hx0.size (.cells #[.map (some hb)] 72)
      have hk0 : Blk (w5.alloc (.cells #[.map (some db)] 72)) w5.heap.size [.map (some db)] 72 := Blk.new w5 [.map (some db)] 72
      have q1 := (Below.refl (w5.alloc (.cells #[.map (some db)] 72)).heap.size (w5.alloc (.cells #[.map (some db)] 72))).alloc (Nat.le_refl _) (.cells #[.map (some hb)] 72)
      have hk1 : Blk ((w5.alloc (.cells #[.map (some db)] 72)).alloc (.cells #[.map (some hb)] 72)) _ [.map (some hb)] 72 := Blk.new _ [.map (some hb)] 72
      have hk0 := hk0.on q1
      simp only [World.size_alloc] at hk1
      have hsz6 : ((w5.alloc (.cells #[.map (some db)] 72)).alloc (.cells #[.map (some hb)] 72)).heap.size = w5.heap.size + 2 := by simp
      generalize (w5.alloc (.cells #[.map (some db)] 72)).alloc (.cells #[.map (some hb)] 72) = w6 at *
      obtain ⟨dx, hdx⟩ : ∃ x, w5.heap.size = x := ⟨_, rfl⟩
      rw [hdx] at hk0 hk1 hsz6
      have hB36 : Below w3.heap.size w3 w6 := hb4.trans ((hb5.mono (by have := HS5.out; omega)).trans (hx1.mono (by have := HS5.out; omega)))
      have HKd := Lib.hid hk0
      have HKh := Lib.hid hk1
      have HKo := Lib.hid (HKo.out.on hB36)
      have HVo := Lib.hid ((HVo.out.on hB36).congr (g := opsF (isR [])) (fun x => rfl))
      have HVd := Lib.hid (((hv4.on hb5).on hx1).congr (g := goneF []) (fun x => rfl))
      have HVh := Lib.hid ((hv5.on hx1).congr (g := goneF []) (fun x => rfl))
      have HB16 := Lib.hid (show Below w1.heap.size w1 w6 from HB3.out.trans (hB36.mono HB3.out.size))
      have HSn := Lib.hid (HA.out.on HB16.out)
      have HB6 := Lib.hid (show Below w.heap.size w w6 from HBN.out.trans (HB16.out.mono HBN.out.size))
      obtain ⟨sx, hsx⟩ : ∃ x, w.heap.size = x := ⟨_, rfl⟩
      have HP := Lib.hid (show w.heap.size = sx ∧ ob = sx + 1 ∧ ox = sx + 2 ∧ db = sx + 3 ∧ hb = sx + 4 ∧ dx = sx + 5 ∧ w6.heap.size = sx + 7 by have := HP3.out; have := HSz.out; have := HS5.out; omega)
      rw [hsx] at HSn
      simp only [hdx, hsx]
      clear hx0 hx1 hk0 hk1 q1 hsz6 hdx hsx hb4 hb5 hv4 hv5 HS5 hB36 HP3 HSz HB3 HA HBN HB16
      go_wp2_with fail
      go_loopw [6, 10, 12, 30] (fun s6 _ _ s30 wr => ∃ i : Nat, i ≤ n ∧ s30 = .int .i64 i ∧ TreeSt w6 ob db s6 (doneOps L i) wr) (fun _ _ _ s30 _ => n - (intOf s30).toNat)
      case atStart => exact ⟨0, by omega, rfl, ⟨⟨rfl, .inl ⟨rfl, rfl⟩⟩, ⟨0, by omega, HVo.out⟩, ⟨0, by omega, HVd.out⟩, Mod.refl _ _⟩⟩
      case round =>
        clear HVo HVd
        obtain ⟨i, hi, rfl, hst⟩ := hrel
        have HSt := Lib.hid hst
        have hp := HP.out
        have hbw : Below w.heap.size w wr := HB6.out.trans (hst.mod.below (fun x hx => by simp only [List.mem_cons, List.not_mem_nil, or_false] at hx; omega) (by omega))
        have hsr := hst.mod.size
        clear hst
        by_cases hlt : i < n
        · have hil : (i : Int) < (n : Int) := by omega
          obtain ⟨q, g, o, hq, hqz, rfl, hg, d0, d1, d2⟩ := (HH.out.on hbw).row hlt
          have hLi : L[i]? = some q.2 := by rw [← HL.out, List.getElem?_map, hq]; rfl
          have HDn := Lib.hid (doneOps_next L i q.2 hLi)
          have HDl := Lib.hid (show (doneOps L i).length ≤ 1000000 from Nat.le_trans (opsOf_len L HLo.out i) (by omega))
          have HOl := Lib.hid (HLo.out q.2 (List.mem_of_getElem? hLi))
          have hBn := (Below.refl wr.heap.size wr).alloc (Nat.le_refl _) (.cells #[.int .u64 (q.1.ts : Nat), .int .u64 (q.1.first : Nat), .slice q.1.a q.1.n q.1.c] 43)
          have hA : Blk (wr.alloc (.cells #[.int .u64 (q.1.ts : Nat), .int .u64 (q.1.first : Nat), .slice q.1.a q.1.n q.1.c] 43)) wr.heap.size [.int .u64 (q.1.ts : Nat), .int .u64 (q.1.first : Nat), .slice q.1.a q.1.n q.1.c] 43 := Blk.new wr [.int .u64 (q.1.ts : Nat), .int .u64 (q.1.first : Nat), .slice q.1.a q.1.n q.1.c] 43
          have HE := Lib.hid (HH.out.each q hqz)
          have HSt := Lib.hid (HSt.out.on hBn)
          have HSr := Lib.hid hsr
          obtain ⟨⟨qt, qf, qa, qn, qc⟩, x⟩ := q
          simp only at d0 d1 d2 HE HDn HOl hBn hA HSt
          clear hq hqz hLi hp hsr hbw hg
          go_upto_region 9 with fail
          generalize wr.alloc (.cells #[.int .u64 (qt : Nat), .int .u64 (qf : Nat), .slice qa qn qc] 43) = w7 at *
          clear d0 d1 d2
          have d2 : w7.cell? ⟨wr.heap.size, 2, none⟩ = some (.slice qa qn qc) := by rw [hA.cell]; rfl
          have HSr7 := Lib.hid (show w6.heap.size ≤ w7.heap.size from Nat.le_trans HSr.out hBn.size)
          have HN7 := Lib.hid (show qn = x.ops.length from HE.out.n)
          have hqn : qn ≤ 1000 := by have := HN7.out; have := HOl.out; omega
          clear hA hBn
          go_wp2_with fail
          clear d2
          go_loopw [6, 12, 37] (fun s6 _ s37 wr => ∃ j : Nat, j ≤ qn ∧ s37 = .int .i64 j ∧ TreeSt w6 ob db s6 (doneOps L i ++ x.ops.take j) wr) (fun _ _ s37 _ => qn - (intOf s37).toNat)
          case atStart => exact ⟨0, by omega, rfl, by simpa using HSt.out⟩
          case round =>
            clear HSt
            obtain ⟨j, hj, rfl, hst⟩ := hrel
            have hp := HP.out
            have hbw : Below w.heap.size w wr := HB6.out.trans (hst.mod.below (fun x hx => by simp only [List.mem_cons, List.not_mem_nil, or_false] at hx; omega) (by omega))
            have hsr := hst.mod.size
            by_cases hlt2 : j < qn
            · have hjl : (j : Int) < (qn : Int) := by omega
              obtain ⟨r, g2, o2, hr, hrm, rfl, hg2, d0, d1, d2, d3⟩ := recs_row (HE.out.rows.on hbw) HN7.out hlt2
              have HRok := Lib.hid (HE.out.ok.ops r hrm)
              have HNx := Lib.hid (show doneOps L i ++ x.ops.take (j + 1) = (doneOps L i ++ x.ops.take j) ++ [r] by rw [take_next _ _ _ hr, List.append_assoc])
              have HAl := Lib.hid (show (doneOps L i ++ x.ops.take j).length ≤ 1000000 by rw [List.length_append, List.length_take]; have := opsOf_len L HLo.out i; have := HOl.out; omega)
              obtain ⟨A, hAe⟩ : ∃ A, doneOps L i ++ x.ops.take j = A := ⟨_, rfl⟩
              rw [hAe] at HNx HAl hst
              have HAe := Lib.hid hAe
              obtain ⟨rk, rl, rd, rv⟩ := r
              simp only at d0 d1 d2 d3
              have hbn := (Below.refl wr.heap.size wr).alloc (Nat.le_refl _) (.cells #[.string ⟨rk.toArray⟩, .int .u64 (rl : Nat), .bool rd, .string ⟨rv.toArray⟩] 49)
              have hA : Blk (wr.alloc (.cells #[.string ⟨rk.toArray⟩, .int .u64 (rl : Nat), .bool rd, .string ⟨rv.toArray⟩] 49)) wr.heap.size [.string ⟨rk.toArray⟩, .int .u64 (rl : Nat), .bool rd, .string ⟨rv.toArray⟩] 49 := Blk.new wr [.string ⟨rk.toArray⟩, .int .u64 (rl : Nat), .bool rd, .string ⟨rv.toArray⟩] 49
              have HLt := Lib.hid (show ∀ x, u6.ownBlock = some x → w6.heap.size ≤ x ∧ x < wr.heap.size from hst.own.lt)
              have HSt := Lib.hid (hst.on hbn)
              have HSr := Lib.hid hsr
              clear hst hr hrm hp hsr hbw hg2 hAe
              go_upto_region 12 with fail
              generalize hw8 : wr.alloc (.cells #[.string ⟨rk.toArray⟩, .int .u64 (rl : Nat), .bool rd, .string ⟨rv.toArray⟩] 49) = w8 at *
              have hw8l : wr.heap.size < w8.heap.size := by rw [← hw8]; simp
              clear hw8 d0 d1 d2 d3
              have e0 : w8.cell? ⟨wr.heap.size, 0, none⟩ = some (.string ⟨rk.toArray⟩) := by rw [hA.cell]; rfl
              have e1 : w8.cell? ⟨wr.heap.size, 1, none⟩ = some (.int .u64 (rl : Nat)) := by rw [hA.cell]; rfl
              have e2 : w8.cell? ⟨wr.heap.size, 2, none⟩ = some (.bool rd) := by rw [hA.cell]; rfl
              have e3 : w8.cell? ⟨wr.heap.size, 3, none⟩ = some (.string ⟨rv.toArray⟩) := by rw [hA.cell]; rfl
              have hbn2 := (Below.refl w8.heap.size w8).alloc (Nat.le_refl _) (.cells #[.string ⟨rk.toArray⟩, .int .u64 (rl : Nat), .bool rd, .string ⟨rv.toArray⟩] 49)
              have hN2 : Blk (w8.alloc (.cells #[.string ⟨rk.toArray⟩, .int .u64 (rl : Nat), .bool rd, .string ⟨rv.toArray⟩] 49)) w8.heap.size (recsCells [⟨rk, rl, rd, rv⟩]) 49 := Blk.new w8 [.string ⟨rk.toArray⟩, .int .u64 (rl : Nat), .bool rd, .string ⟨rv.toArray⟩] 49
              obtain ⟨v', w9, hrun, hown', hmod, hblk⟩ := own_append 41 49 41 _ 4 48 Tryz.underlying41 info_rec rfl (by decide) (by decide) (HSt.out.own.alloc (.cells #[.string ⟨rk.toArray⟩, .int .u64 (rl : Nat), .bool rd, .string ⟨rv.toArray⟩] 49))
                HAl.out (by have := HSr.out; simp; omega) ⟨w8.heap.size, 0, none⟩ 1 1 (recsCells [⟨rk, rl, rd, rv⟩]) (by omega) (by omega) rfl
                (fun k u hk => by rw [addr_add', Nat.zero_add, hN2.cell]; exact hk) (recs_one _)
              rw [← recs_append] at hown'
              have hm89 : Mod u6.ownBlock.toList w8 w9 := (Mod.of_below hbn2).trans hmod
              have HOwn := Lib.hid hown'
              have HM := Lib.hid (show Mod [ob, db] w6 w9 from HSt.out.mod.on hm89 (fun y hy => .inr (HLt.out y (by simpa using hy)).1))
              have HM89 := Lib.hid hm89
              have HVx := Lib.hid (show (∃ k, k ≤ A.length ∧ VMap recKey w9 ob k (opsF (isR A))) ∧ ∃ k, k ≤ A.length ∧ VMap textKey w9 db k (goneF A) from by
                have hp := HP.out
                obtain ⟨k1, e1, h1⟩ := HSt.out.ops
                obtain ⟨k2, e2, h2⟩ := HSt.out.dels
                exact ⟨⟨k1, e1, h1.mod hm89 (fun hy => by have := (HLt.out ob (by simpa using hy)).1; omega)⟩, ⟨k2, e2, h2.mod hm89 (fun hy => by have := (HLt.out db (by simpa using hy)).1; omega)⟩⟩)
              have HA9 := Lib.hid (hA.mod hm89 (fun hy => by have := (HLt.out _ (by simpa using hy)).2; omega))
              clear hown' hmod hblk hbn hbn2 hN2 hm89 hA HSt
              go_upto_region 13 with (at_builtin; (with_reducible refine wpList_append_run rfl _ _ _ rfl _ _ _ _ ?_ ?_ hrun ?_); rfl; rfl)
              clear hrun e0 e1 e2 e3
              have hp := HP.out
              have hs9 : w8.heap.size ≤ w9.heap.size := HM89.out.size
              have hlt9 := HOwn.out.lt
              have e0 : w9.cell? ⟨wr.heap.size, 0, none⟩ = some (.string ⟨rk.toArray⟩) := by rw [HA9.out.cell]; rfl
              have e1 : w9.cell? ⟨wr.heap.size, 1, none⟩ = some (.int .u64 (rl : Nat)) := by rw [HA9.out.cell]; rfl
              have e2 : w9.cell? ⟨wr.heap.size, 2, none⟩ = some (.bool rd) := by rw [HA9.out.cell]; rfl
              have e3 : w9.cell? ⟨wr.heap.size, 3, none⟩ = some (.string ⟨rv.toArray⟩) := by rw [HA9.out.cell]; rfl
              have b0 : w9.cell? ⟨ox, 0, none⟩ = some (.map (some ob)) := by rw [(HKo.out.mod HM.out (by simp only [List.mem_cons, List.not_mem_nil, or_false]; omega)).cell]; rfl
              obtain ⟨⟨k1, hk1, hv1⟩, k2, hk2, hv2⟩ := HVx.out
              obtain ⟨w10, k1', hr10, hv10, hk10, hm10⟩ := ops_store hv1 (by have := HAl.out; omega) ⟨rk, rl, rd, rv⟩ HRok.out
              unfold recV at hr10
              simp only at hr10
              have HSr9 := HSr.out
              have HA10 := Lib.hid (HA9.out.mod hm10 (by simp only [List.mem_singleton]; omega))
              have HM10 := Lib.hid (HM.out.on hm10 (fun y hy => by simp only [List.mem_singleton] at hy; rw [hy]; exact .inl (by simp)))
              have HOwn10 := Lib.hid (ownsRow_mod HOwn.out hm10 (fun y hy e => by simp only [List.mem_singleton] at hy; have := (hlt9 y e).1; omega))
              have HVo10 := Lib.hid (show ∃ k, k ≤ A.length + 1 ∧ VMap recKey w10 ob k (opsF (isR (A ++ [⟨rk, rl, rd, rv⟩]))) from ⟨k1', by omega, hv10.congr (fun y => by unfold opsF; rw [isR_snoc])⟩)
              have HVd10 := Lib.hid (hv2.mod hm10 (by simp only [List.mem_singleton]; omega))
              have hs10 : w9.heap.size ≤ w10.heap.size := hm10.size
              have HLt9 := Lib.hid hlt9
              clear hv1 hv2 hv10 hm10 hk10 HVx HM HM89 HA9 HOwn hlt9 hp HSr9
              go_upto_region 14 with fail
              clear hr10 e0 e1 e2 e3 b0
              have e2 : w10.cell? ⟨wr.heap.size, 2, none⟩ = some (.bool rd) := by rw [HA10.out.cell]; rfl
              cases rd with
              | false =>
                have HE2 := Lib.hid (show TreeSt w6 ob db v' (doneOps L i ++ x.ops.take (j + 1)) w10 from by
                  rw [HNx.out]
                  have hl : (A ++ [(⟨rk, rl, false, rv⟩ : Rec)]).length = A.length + 1 := by simp
                  exact ⟨by rw [hl]; exact HOwn10.out, by rw [hl]; exact HVo10.out, ⟨k2, by rw [hl]; omega, HVd10.out.congr (fun y => (gone_skip A ⟨rk, rl, false, rv⟩ rfl y).symm)⟩, HM10.out⟩)
                go_wp2_with fail
                go_roundw
                case rel => exact ⟨j + 1, by omega, by go_num, HE2.out⟩
                case measure => simp [intOf]; omega
              | true =>
                have hp := HP.out
                have HSr9 := HSr.out
                have b1 : w10.cell? ⟨dx, 0, none⟩ = some (.map (some db)) := by rw [(HKd.out.mod HM10.out (by simp only [List.mem_cons, List.not_mem_nil, or_false]; omega)).cell]; rfl
                have e0 : w10.cell? ⟨wr.heap.size, 0, none⟩ = some (.string ⟨rk.toArray⟩) := by rw [HA10.out.cell]; rfl
                have e1 : w10.cell? ⟨wr.heap.size, 1, none⟩ = some (.int .u64 (rl : Nat)) := by rw [HA10.out.cell]; rfl
                obtain ⟨w11, k2', hr11, hv11, hk11, hm11⟩ := gone_store HVd10.out (by have := HAl.out; omega) ⟨rk, rl, true, rv⟩ HRok.out rfl
                have hlk := gone_look HVd10.out rk HRok.out.1
                have hmx := fun w => max_u64 (gmax A rk) rl w
                simp only at hr11
                have HE2 := Lib.hid (show TreeSt w6 ob db v' (doneOps L i ++ x.ops.take (j + 1)) w11 from by
                  rw [HNx.out]
                  have hl : (A ++ [(⟨rk, rl, true, rv⟩ : Rec)]).length = A.length + 1 := by simp
                  obtain ⟨k, hk, hv⟩ := HVo10.out
                  exact ⟨by rw [hl]; exact ownsRow_mod HOwn10.out hm11 (fun y hy e => by simp only [List.mem_singleton] at hy; have := (HLt9.out y e).1; omega), ⟨k, by rw [hl]; exact hk, hv.mod hm11 (by simp only [List.mem_singleton]; omega)⟩, ⟨k2', by rw [hl]; omega, hv11⟩, HM10.out.on hm11 (fun y hy => by simp only [List.mem_singleton] at hy; rw [hy]; exact .inl (by simp))⟩)
                clear hv11 hm11 hk11 hp HSr9
                generalize gmax A rk = gm at *
                go_wp2_with fail
                go_roundw
                case rel => exact ⟨j + 1, by omega, by go_num, HE2.out⟩
                case measure => simp [intOf]; omega
            · have hge2 : ¬ (j : Int) < (qn : Int) := by omega
              have hall : x.ops.take j = x.ops := List.take_of_length_le (by have := HN7.out; omega)
              rw [hall, ← HDn.out] at hst
              have HSt := Lib.hid hst
              clear hst hall hp hsr hbw
              go_wp2_with fail
              go_roundw
              case rel => exact ⟨i + 1, by omega, by go_num, HSt.out⟩
              case measure => simp [intOf]; omega
        · have hge : ¬ (i : Int) < (n : Int) := by omega
          have hall : doneOps L i = opsOf L := by unfold doneOps; rw [List.take_of_length_le (by have := HLen.out; omega)]
          rw [hall] at HSt
          have hAl := opsOf_len L HLo.out i
          rw [hall] at hAl
          have HAl := Lib.hid (show (opsOf L).length ≤ 1000000 by omega)
          obtain ⟨A, hAe⟩ : ∃ A, opsOf L = A := ⟨_, rfl⟩
          rw [hAe] at HSt HAl HAok HKL
          have HSw := Lib.hid (show sx < wr.heap.size ∧ ox < wr.heap.size ∧ dx + 1 < wr.heap.size ∧ w6.heap.size ≤ wr.heap.size by omega)
          have HBw := Lib.hid hbw
          have HNw := Lib.hid (fun w' (hb : Below w.heap.size w w') => HN.out.on hb)
          clear hAl hall hAe hp hbw hsr HLo
          generalize wr = wo at *
          have HT1 := Lib.hid (show Tree1At wo (dx + 1) sx ox hb ob (⟨tcUp, true, ready, true, base, stable, last, eosl, low, ca, cn, cc, aa, an, ac, fly⟩ : Sn) A [] from by
            have hm := HSt.out.mod
            have hp := HP.out
            have hw := HSw.out
            obtain ⟨k, hk, hv⟩ := HSt.out.ops
            exact ⟨by rw [(HKh.out.mod hm (by simp only [List.mem_cons, List.not_mem_nil, or_false]; omega)).cell]; rfl, by rw [(HKo.out.mod hm (by simp only [List.mem_cons, List.not_mem_nil, or_false]; omega)).cell]; rfl, HSn.out.mod hm (by simp only [List.mem_cons, List.not_mem_nil, or_false]; omega), by omega, by omega, ⟨0, by omega, HVh.out.mod hm (by simp only [List.mem_cons, List.not_mem_nil, or_false]; omega)⟩, ⟨k, hv⟩, by omega, by omega, by omega, by omega⟩)
          have HF1 := Lib.hid (firstT_any wo (dx + 1) sx ox hb ob (⟨tcUp, true, ready, true, base, stable, last, eosl, low, ca, cn, cc, aa, an, ac, fly⟩ : Sn) N A HT1.out w.heap.size (by have := HP.out; have := HSw.out; omega) (by have := HP.out; omega) (fun w' hb => HNw.out w' (HBw.out.trans hb)) EN.out (by show cn ≤ 1000000; omega) ON.out)
          obtain ⟨_, _, _, _, _, _, _, _, _, s9, _, _⟩ := HT1.out.sc.cells
          simp only at s9 HF1
          have hsc := scanT_ge stable A N none 0
          obtain ⟨st, hst⟩ : ∃ x, scanT stable A none 0 N = x := ⟨_, rfl⟩
          rw [hst] at HF1 HKL hsc
          obtain ⟨a6, c6, rfl⟩ := own_slice HSt.out.own
          have HDl := Lib.hid (show ∃ k, k ≤ A.length ∧ VMap textKey wo db k (goneF A) from HSt.out.dels)
          have HAr := Lib.hid (show RowsAt wo a6 A.length c6 4 (recsCells A) ∧ (∀ g o, a6 = some ⟨g, o, none⟩ → w6.heap.size ≤ g ∧ g < wo.heap.size) from ⟨(own_rows HSt.out.own).1, fun g o e => HSt.out.own.lt g (by rw [e]; rfl)⟩)
          have HKd2 := Lib.hid (HKd.out.mod HSt.out.mod (by have := HP.out; simp only [List.mem_cons, List.not_mem_nil, or_false]; omega))
          have HLn := Lib.hid (show cn = N.length from EN.out)
          clear HT1 HSt HSn HKd HKh HKo HVh hst
          go_wp2_with fail
          refine HF1.out.mono ?_
          rintro e w7 ⟨rfl, ht7, hb7, hm7⟩
          clear s9
          by_cases hge0 : 0 ≤ st
          · have hge0' : st ≥ 0 := hge0
            have HR := Lib.hid (show tv = st by rw [HKL.out, if_pos hge0])
            have HE := Lib.hid (HBw.out.trans hb7)
            clear ht7 hb7 hm7 HKL HF1
            go_wp2_with fail
            go_ret
            exact ⟨by rw [HR.out]; try rfl, HE.out⟩
          · have hge0' : ¬ st ≥ 0 := hge0
            have HT7 := Lib.hid (ht7 (by omega))
            have HB7 := Lib.hid (HBw.out.trans hb7)
            have HM7 := Lib.hid hm7
            rw [if_neg hge0] at HKL
            have HS7 := Lib.hid (show w6.heap.size ≤ wo.heap.size ∧ wo.heap.size ≤ w7.heap.size from ⟨HSw.out.2.2.2, hm7.size⟩)
            obtain ⟨tb, w8, htb, hr8, hv8, hb8, hs8⟩ := made_ti w7
            have HS8 := Lib.hid (And.intro htb hs8)
            clear htb hs8 ht7 hb7 hm7 HF1
            go_upto_region 22 with fail
            clear hr8
            have hx := (Below.refl w8.heap.size w8).alloc (Nat.le_refl _) (.cells #[.map (some tb)] 75)
            have hk : Blk (w8.alloc (.cells #[.map (some tb)] 75)) w8.heap.size [.map (some tb)] 75 := Blk.new w8 [.map (some tb)] 75
            have hs9 : (w8.alloc (.cells #[.map (some tb)] 75)).heap.size = w8.heap.size + 1 := by simp
            obtain ⟨tx, htx⟩ : ∃ x, w8.heap.size = x := ⟨_, rfl⟩
            have HB79 := Lib.hid (hb8.trans (hx.mono (by have := HS8.out; omega)))
            have HVt := Lib.hid ((hv8.on hx).congr (g := thereF (N.take 0)) (fun x => rfl))
            generalize w8.alloc (.cells #[.map (some tb)] 75) = w9 at *
            rw [htx] at hk hs9
            have HKt := Lib.hid hk
            have HP9 := Lib.hid (show tb = w7.heap.size ∧ tx = w7.heap.size + 1 ∧ w9.heap.size = w7.heap.size + 2 by have := HS8.out; omega)
            have HT9 := Lib.hid (HT7.out.on HB79.out)
            have HB9 := Lib.hid (HB7.out.trans (HB79.out.mono HB7.out.size))
            obtain ⟨_, _, _, _, _, _, _, _, _, s9, _, _⟩ := HT9.out.sc.cells
            simp only at s9
            simp only [htx]
            clear hx hk hs9 htx hb8 hv8 HS8 HT7
            go_wp2_with fail
            clear s9
            go_loopw [16, 72] (fun _ s72 wr => ∃ (i k : Nat), i ≤ cn ∧ s72 = .int .i64 i ∧ k ≤ i ∧ VMap textKey wr tb k (thereF (N.take i)) ∧ Mod [tb] w9 wr) (fun _ s72 _ => cn - (intOf s72).toNat)
            case atStart => exact ⟨0, 0, by omega, rfl, by omega, HVt.out, Mod.refl _ _⟩
            case round =>
              clear HVt
              obtain ⟨i, k, hi, rfl, hki, hv, hm⟩ := hrel
              have hsr := hm.size
              have hp9 := HP9.out
              have hbw : Below w.heap.size w wr := HB9.out.trans (hm.below (fun x hx => by simp only [List.mem_singleton] at hx; have := HB7.out.size; omega) HB9.out.size)
              by_cases hlt : i < cn
              · have hil : (i : Int) < (cn : Int) := by omega
                obtain ⟨r, g2, o2, hr, hrm, rfl, hg2, d0, d1, d2, d3⟩ := recs_row (HNw.out wr hbw) HLn.out hlt
                have HRok := Lib.hid (ON.out r hrm)
                have HNx := Lib.hid (take_next N i r hr)
                obtain ⟨rk, rl, rd, rv⟩ := r
                simp only at d0 d1 d2 d3
                have hbn := (Below.refl wr.heap.size wr).alloc (Nat.le_refl _) (.cells #[.string ⟨rk.toArray⟩, .int .u64 (rl : Nat), .bool rd, .string ⟨rv.toArray⟩] 49)
                have hA : Blk (wr.alloc (.cells #[.string ⟨rk.toArray⟩, .int .u64 (rl : Nat), .bool rd, .string ⟨rv.toArray⟩] 49)) wr.heap.size [.string ⟨rk.toArray⟩, .int .u64 (rl : Nat), .bool rd, .string ⟨rv.toArray⟩] 49 := Blk.new wr [.string ⟨rk.toArray⟩, .int .u64 (rl : Nat), .bool rd, .string ⟨rv.toArray⟩] 49
                have HV := Lib.hid (hv.on hbn)
                have HMd := Lib.hid (hm.thenBelow hbn)
                have b0 := (hm.cell (b := tx) (i := 0) (by omega) (by simp only [List.mem_singleton]; omega)).trans (show w9.cell? ⟨tx, 0, none⟩ = some (.map (some tb)) by rw [HKt.out.cell]; rfl)
                have HB0 := Lib.hid ((hbn.cell (p := ⟨tx, 0, none⟩) (by show tx < _; omega)).trans b0)
                clear hv hm hbw hr hrm hg2 b0 hp9 hsr hbn
                go_upto_region 25 with fail
                generalize wr.alloc (.cells #[.string ⟨rk.toArray⟩, .int .u64 (rl : Nat), .bool rd, .string ⟨rv.toArray⟩] 49) = w10 at *
                clear d0 d1 d2 d3
                have e0 : w10.cell? ⟨wr.heap.size, 0, none⟩ = some (.string ⟨rk.toArray⟩) := by rw [hA.cell]; rfl
                have b0 := HB0.out
                obtain ⟨w11, k', hr11, hv11, hk11, hm11⟩ := there_store HV.out (by omega) ⟨rk, rl, rd, rv⟩ HRok.out
                simp only at hr11
                have HV11 := Lib.hid (show VMap textKey w11 tb k' (thereF (N.take (i + 1))) by rw [HNx.out]; exact hv11)
                have HM11 := Lib.hid (HMd.out.trans hm11)
                clear hv11 hm11 hA
                go_wp2_with fail
                go_roundw
                case rel => exact ⟨i + 1, k', by omega, by go_num, by omega, HV11.out, HM11.out⟩
                case measure => simp [intOf]; omega
              · have hge : ¬ (i : Int) < (cn : Int) := by omega
                have hall : N.take i = N := List.take_of_length_le (by have := HLn.out; omega)
                rw [hall] at hv
                have hsz7 := HS7.out
                have hp := HP.out
                have hm2 : Mod [hb] wo w9 := HM7.out.thenBelow HB79.out
                have hm3 : Mod [hb, tb] wo wr := (hm2.mono (fun z hz => .inl (by simp at hz; simp [hz]))).on hm (fun z hz => .inl (by simp at hz; simp [hz]))
                have HT2 := Lib.hid (show Tree2At wr sx tx (dx + 1) dx tb hb db (⟨tcUp, true, ready, true, base, stable, last, eosl, low, ca, cn, cc, aa, an, ac, fly⟩ : Sn) N A from by
                  have h9 := HT9.out
                  obtain ⟨k2, hk2, hv2⟩ := HDl.out
                  obtain ⟨n1, hn1, hvh⟩ := h9.has
                  exact ⟨by rw [(HKt.out.mod hm (by simp only [List.mem_singleton]; omega)).cell]; rfl, (hm.cell (b := dx + 1) (i := 0) h9.hl (by simp only [List.mem_singleton]; omega)).trans h9.hc, by rw [(HKd2.out.mod hm3 (by simp only [List.mem_cons, List.not_mem_nil, or_false]; omega)).cell]; rfl, h9.sc.mod hm (by simp only [List.mem_singleton]; omega), by omega, by omega, by omega, ⟨k, hv⟩, ⟨n1, hvh.mod hm (by simp only [List.mem_singleton]; omega)⟩, ⟨k2, hv2.mod hm3 (by simp only [List.mem_cons, List.not_mem_nil, or_false]; omega)⟩⟩)
                have HAr2 := Lib.hid (show RowsAt wr a6 A.length c6 4 (recsCells A) from HAr.out.1.mod hm3 (fun g o e => by have := HAr.out.2 g o e; have := HP9.out; simp only [List.mem_cons, List.not_mem_nil, or_false]; omega))
                have HBr := Lib.hid hbw
                clear hv hm hbw hall hsz7 hp hm2 hm3 HT9 hp9 hsr
                generalize wr = w10 at *
                have HF2 := Lib.hid (fun w' (hb' : Below w10.heap.size w10 w') => firstO_any w' sx tx (dx + 1) dx tb hb db (⟨tcUp, true, ready, true, base, stable, last, eosl, low, ca, cn, cc, aa, an, ac, fly⟩ : Sn) N A (HT2.out.on hb') a6 A.length c6 (HAr2.out.on hb') rfl HAl.out HAok.out)
                have HSc := Lib.hid (fun w' (hb' : Below w10.heap.size w10 w') => ((HT2.out.on hb').sc.cells).2.2.2.2.2.2.2.2.2.1)
                simp only at HF2 HSc
                have hfo1 := firstR_ge (badO last stable low N A) 0 A
                have hfo2 := firstR_le (badO last stable low N A) 0 A
                obtain ⟨fo, hfo⟩ : ∃ x, firstR (badO last stable low N A) 0 A = x := ⟨_, rfl⟩
                rw [hfo] at HKL hfo1 hfo2
                simp only [hfo] at HF2
                have HBh := Lib.hid (fun w' => behind_any fo cn (by have := HAl.out; omega) (by omega) w')
                have HR := Lib.hid (show tv = (if fo < 0 then -1 else (cn : Int) + fo) by rw [HKL.out, show (N.length : Int) = cn by rw [HLn.out]])
                obtain ⟨bv, hbv⟩ : ∃ b, (if fo < 0 then -1 else (cn : Int) + fo) = b := ⟨_, rfl⟩
                rw [hbv] at HR
                simp only [hbv] at HBh
                clear hfo hbv hfo1 hfo2 HKL
                go_upto_region 27 with fail
                refine wp_region_settleF (Below w10.heap.size w10) (by kernel_rfl) (by kernel_rfl) (by kernel_rfl) (below_drew (Below.refl _ _)) ?_
                repeat (first
                  | (refine settled_not ?_ ?_
                     · rfl
                     simp only [Act.put, List.setIfInBounds_toArray, List.set_cons_zero, List.set_cons_succ])
                  | (refine settled_val (v := ?_) ?_ (fun w' hS => ?_) ?_
                     rotate_left
                     · rfl
                     · have s9 := HSc.out w' hS
                       go_simp
                       with_reducible rfl
                     simp only [Act.put, List.setIfInBounds_toArray, List.set_cons_zero, List.set_cons_succ])
                  | (refine settled_call (f := 38) (v := .int .i64 fo) ?_ (fun w' hS => ?_) (fun w' hS => ((HF2.out w' hS).mono fun e w'' ⟨h1, h2⟩ => ⟨h1, hS.on h2⟩)) ?_
                     · rfl
                     · go_simp
                     simp only [Act.put, List.setIfInBounds_toArray, List.set_cons_zero, List.set_cons_succ])
                  | (refine settled_call (f := 32) (v := .int .i64 bv) ?_ (fun w' hS => ?_) (fun w' hS => ((HBh.out w').mono fun e w'' ⟨h1, h2⟩ => ⟨h1, h2 ▸ hS⟩)) ?_
                     · rfl
                     · go_simp
                     simp only [Act.put, List.setIfInBounds_toArray, List.set_cons_zero, List.set_cons_succ]))
                refine settled_nil (fun w11 hS => ?_)
                have HE := Lib.hid (HBr.out.trans (hS.mono HBr.out.size))
                clear hS HF2 HBh
                go_wp2_with fail
                go_ret
                exact ⟨by rw [HR.out]; try rfl, HE.out⟩
end Go.Proofs.YtecknikehieioaaGreat
