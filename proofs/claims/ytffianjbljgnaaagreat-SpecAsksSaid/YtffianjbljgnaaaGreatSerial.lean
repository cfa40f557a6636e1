/-
  spec.Serial: the first call that isn't. Conditions: at most nine hundred calls and entries, twelve transactions that are committed (BoundU), of at most a thousand calls each (BoundC).
-/
import Derived.Test.YtffianjbljgnaaaGreatOf
namespace Go.Proofs.YtffianjbljgnaaaGreat
set_option linter.unusedVariables false
set_option linter.unusedSimpArgs false
open Go.RowKit Go.Maps

/-- A transaction's calls, one behind the other, on a map: the first that is not right; the map and what was written, if all are. -/
def runC (z : List MZ) : List KV → List Rec → List Nat → Option Nat × List KV × List Rec
  | M, W, [] => (none, M, W)
  | M, W, i :: t => match z[i]? with
    | none => (none, M, W)
    | some q => if rightB M q then runC z (rightM M q) (rightW W q) t else (some i, M, W)
def entsOf (ez : List EZ) (ts : Nat) : List Entry := (ofZ ez ts).map (·.2)
def serialL (z : List MZ) (ez : List EZ) : List KV → List Nat → Int
  | _, [] => -1
  | M, ts :: t => match runC z M [] (callsL ts z) with
    | (some i, _, _) => i
    | (none, M2, W2) => if endedB W2 (entsOf ez ts) then serialL z ez M2 t else firstAt (askC ts) 0 z
theorem u64s_nth (l : List Nat) (i n : Nat) (h : l[i]? = some n) : (u64s l)[i]? = some (.int .u64 (n : Int)) := by unfold u64s; rw [List.getElem?_map, h]; rfl
theorem i64s_nth (l : List Nat) (i n : Nat) (h : l[i]? = some n) : (i64s l)[i]? = some (.int .i64 (n : Int)) := by unfold i64s; rw [List.getElem?_map, h]; rfl
theorem rightM_asc {M : List KV} (h : Asc M) (q : MZ) : Asc (rightM M q) := by
  unfold rightM
  split
  · exact app_asc h _
  · split
    · exact app_asc h _
    · exact h
theorem rightM_length {M : List KV} (h : Asc M) (q : MZ) : (rightM M q).length ≤ M.length + 1 := by
  unfold rightM
  split
  · exact app_length h _
  · split
    · exact app_length h _
    · omega
theorem rightW_length (W : List Rec) (q : MZ) : (rightW W q).length ≤ W.length + 1 := by
  have h : ∀ r, (setR W r).length ≤ W.length + 1 := fun r => by rw [setR_length]; split <;> omega
  unfold rightW
  split
  · exact h _
  · split
    · exact h _
    · omega
/-- What the seen calls of a history are asked to be. -/
structure MadeOk (z : List MZ) : Prop where
  pn : ∀ q ∈ z, q.1.pn ≤ 9223372036854775807
  kind : ∀ q ∈ z, -9223372036854775808 ≤ q.1.kind ∧ q.1.kind ≤ 9223372036854775807
set_option maxRecDepth 100000 in
set_option maxHeartbeats 16000000 in
theorem serial_any (w : World) (a : Option Addr) (n c : Nat) (z : List EZ) (h : EntsAt w a n c z) (hn : n ≤ 900) (hops : ∀ q ∈ z, q.2.ops.length ≤ 1000)
    (am : Option Addr) (nm cm : Nat) (zm : List MZ) (hm : MadeAt w am nm cm zm) (hnm : nm ≤ 900) (hok : MadeOk zm) (hB : BoundU (commL (z.map (·.1.ts)) zm).length) (hC : ∀ ts, BoundC (indsL ts zm).length) :
    Calls Tryz.prog 9 #[.slice a n c, .slice am nm cm] w fun e w' => e = .returned (.int .i64 (serialL zm z [] (commL (z.map (·.1.ts)) zm))) ∧ Below w.heap.size w w' := by
  have hM0 := VMap.made_run (w := w) (k := 9) (e := 9) (t := 55) Tryz.underlying55
  have HH := Lib.hid h
  have HMM := Lib.hid hm
  have HO := Lib.hid hops
  have HK := Lib.hid hok
  clear h hm hops hok
  go_enter Tryz.func9, Tryz.ntmps9
  go_upto_region 2 with fail
  clear hM0
  have hbm := (Below.refl w.heap.size w).alloc (Nat.le_refl _) (.map #[] 0)
  have hb1 := hbm.alloc hbm.size (.cells #[.map (some w.heap.size), .map none] 58)
  have hst : StoreAt ((w.alloc (.map #[] 0)).alloc (.cells #[.map (some w.heap.size), .map none] 58)) w.heap.size [] := (StoreAt.made w).on ((Below.refl _ _).alloc (Nat.le_refl _) _)
  have hrb : Blk ((w.alloc (.map #[] 0)).alloc (.cells #[.map (some w.heap.size), .map none] 58)) (w.heap.size + 1) [.map (some w.heap.size), .map none] 58 := by
    have := Blk.new (w.alloc (.map #[] 0)) [.map (some w.heap.size), .map none] 58
    rw [World.size_alloc] at this
    exact this
  have hsz : ((w.alloc (.map #[] 0)).alloc (.cells #[.map (some w.heap.size), .map none] 58)).heap.size = w.heap.size + 2 := by simp
  generalize (w.alloc (.map #[] 0)).alloc (.cells #[.map (some w.heap.size), .map none] 58) = w1 at *
  have hM1 := VMap.made_run (w := w1) (k := 33) (e := 22) (t := 59) Tryz.underlying59
  have HOf0 := Lib.hid (OfAt.made w1)
  have HB1 := Lib.hid hb1
  have HSt := Lib.hid hst
  have HRb := Lib.hid hrb
  have HSz := Lib.hid hsz
  have HBo := Lib.hid ((Below.refl w1.heap.size w1).alloc (Nat.le_refl _) (.map #[] 0))
  clear hbm hb1 hst hrb hsz
  go_wp2_with fail
  clear hM1
  go_loopw [8, 19] (fun _ s19 wr => ∃ (i k : Nat) (F : Nat → Option Value), i ≤ n ∧ s19 = .int .i64 i ∧ OfAt wr w1.heap.size (w1.heap.size + 1) (z.take i) F k ∧ Below w1.heap.size w1 wr ∧ w1.heap.size + 1 ≤ wr.heap.size) (fun _ s19 _ => n - (intOf s19).toNat)
  case atStart => exact ⟨0, 0, _, by omega, rfl, HOf0.out, HBo.out, by simp⟩
  case round =>
    obtain ⟨i, k, F, hi, rfl, hOf, hb, hsz⟩ := hrel
    have HBw := Lib.hid (HB1.out.trans (hb.mono HB1.out.size))
    by_cases hlt : i < n
    · have hil : (i : Int) < (n : Int) := by omega
      obtain ⟨q, g, o, hq, hqz, rfl, hg, c0, c1, c2⟩ := (HH.out.on HBw.out).row hlt
      have hts : q.1.ts < 18446744073709551616 := by rw [(HH.out.each q hqz).ts]; exact (HH.out.each q hqz).ok.ts
      have hNext : z.take (i + 1) = z.take i ++ [q] := by rw [List.take_add_one, hq]; rfl
      have HNext := Lib.hid hNext
      have hbn := (Below.refl wr.heap.size wr).alloc (Nat.le_refl _) (.cells #[.int .u64 (q.1.ts : Nat), .int .u64 (q.1.first : Nat), .slice q.1.a q.1.n q.1.c] 36)
      have hBx : Blk (wr.alloc (.cells #[.int .u64 (q.1.ts : Nat), .int .u64 (q.1.first : Nat), .slice q.1.a q.1.n q.1.c] 36)) wr.heap.size (entCells q.1) 36 := Blk.new wr (entCells q.1) _
      have hOf3 := hOf.on hbn
      have hb3 := hb.trans (hbn.mono hb.size)
      clear hq hqz hNext
      go_upto_region 6 with fail
      generalize hw3 : wr.alloc (.cells #[.int .u64 (q.1.ts : Nat), .int .u64 (q.1.first : Nat), .slice q.1.a q.1.n q.1.c] 36) = w3 at *
      have HW3 := Lib.hid (show wr.heap.size < w3.heap.size by rw [← hw3]; simp)
      clear hw3 c0 c1 c2 hbn
      have hvb : ∀ x, x ∈ (ofV F q.1.ts).ownBlock.toList → w1.heap.size + 1 ≤ x ∧ x < wr.heap.size := fun x hx => (hOf.row q.1.ts).lt x (by simpa using hx)
      have HF := Lib.hid (show ∀ w', Mod (ofV F q.1.ts).ownBlock.toList w3 w' → (w'.cell? ⟨wr.heap.size, 0, none⟩ = some (.int .u64 (q.1.ts : Nat)) ∧ w'.cell? ⟨wr.heap.size, 1, none⟩ = some (.int .u64 (q.1.first : Nat)) ∧ w'.cell? ⟨wr.heap.size, 2, none⟩ = some (.slice q.1.a q.1.n q.1.c) ∧
          (Instr.lookup 59 (.map (some w1.heap.size)) (.int .u64 (q.1.ts : Nat)) false).run Tryz.prog w' = .ok (ofV F q.1.ts) w') from fun w' hm => by
        have hx := hBx.mod hm (fun hx => by have := (hvb _ hx).2; omega)
        refine ⟨by rw [hx.cell]; rfl, by rw [hx.cell]; rfl, by rw [hx.cell]; rfl, ?_⟩
        have := (hOf3.map.mod hm (fun hx => by have := (hvb _ hx).1; omega)).look_run (e := 22) (z := .slice none 0 0) Tryz.underlying59 (by kernel_rfl) q.1.ts hts
        rw [show numKey.val q.1.ts = .int .u64 (q.1.ts : Nat) from rfl] at this
        exact this)
      have hOf4 : OfAt { w3 with drawn := w3.drawn + 1 } w1.heap.size (w1.heap.size + 1) (z.take i) F k := hOf3.on (below_drew (Below.refl _ _))
      have HVB := Lib.hid hvb
      have HB3 := Lib.hid hb3
      clear hOf hOf3 hBx hvb hb hb3
      refine wp_region_float [0, 1, 2, 3, 4, 5, 6, 7] [8, 9, 10] [10] (fun w' => Mod (ofV F q.1.ts).ownBlock.toList w3 w') (by kernel_rfl) (by kernel_rfl) (by kernel_rfl) (by kernel_rfl) (fun c a d v w h => by cases d <;> exact h) ((Mod.refl _ _).drew) ?_
      have hS : Mod (ofV F q.1.ts).ownBlock.toList w3 { w3 with drawn := w3.drawn + 1 } := (Mod.refl _ _).drew
      generalize ({ w3 with drawn := w3.drawn + 1 } : World) = w4 at *
      simp only [pick, List.map_cons, List.map_nil, List.getD_cons_zero, List.getD_cons_succ]
      repeat (
        refine takes_val (v := ?_) ?_ (fun w' hS => ?_) ?_
        rotate_left
        · rfl
        · obtain ⟨k0, k1, k2, k3⟩ := HF.out w' hS
          go_simp
          with_reducible rfl
        simp only [Act.put, List.setIfInBounds_toArray, List.set_cons_zero, List.set_cons_succ])
      refine takes_nil ?_
      obtain ⟨v', w5, w6, F', k', hrun, hm5, hrun2, hOf6, hm6⟩ := hOf4.put (by have := hS.size; have := HW3.out; omega) (by rw [List.length_take]; omega) q hts 22 _ rfl w4.heap.size rfl
      have HM6 := Lib.hid (show Below w1.heap.size w1 w6 from HB3.out.trans ((hS.below (fun x hx => by have := (HVB.out x hx).1; omega) HB3.out.size).trans (hm6.below (fun x hx => by
        rcases List.mem_cons.1 hx with rfl | hx
        · exact Nat.le_refl _
        · have := (HVB.out x hx).1; omega) (by have := hS.size; have := HB3.out.size; omega))))
      have HOf6 := Lib.hid hOf6
      have HS6 := Lib.hid (show w1.heap.size + 1 ≤ w6.heap.size by have := hm6.size; have := hS.size; have := HW3.out; omega)
      clear hOf4 hOf6 hm6
      refine seqW_step (by rfl) (fun K hK => ?_)
      go_simp
      refine hK.out _ _ (.inr (hS.alloc _)) ?_
      clear hK K
      refine seqW_step (by rfl) (fun K hK => ?_)
      refine oper_append_run3 _ _ _ rfl _ _ _ _ ?hs ?hx hrun ?_
      case hs => go_simp
      case hx => go_simp
      simp only [Act.put, List.setIfInBounds_toArray, List.set_cons_zero, List.set_cons_succ]
      refine hK.out _ _ (.inr (hS.trans hm5)) ?_
      clear hK K
      refine seqW_step (by rfl) (fun K hK => ?_)
      go_simp
      refine hK.out _ _ (.inl (by rfl)) (seqW_nil ?_)
      clear hK K HF hS hrun hrun2 hm5
      go_wp2_with fail
      go_roundw
      case rel => exact ⟨i + 1, k', F', by omega, by go_num, by rw [HNext.out]; exact HOf6.out, HM6.out, HS6.out⟩
      case measure => simp [intOf]; omega
    · have hge : ¬ (i : Int) < (n : Int) := by omega
      have hin : i = z.length := by rw [HH.out.len]; omega
      rw [hin, List.take_of_length_le (Nat.le_refl _)] at hOf
      have HCm := Lib.hid (comm_any wr am nm cm zm (HMM.out.on HBw.out) (by omega) a n c z (HH.out.on HBw.out) (by omega) hB)
      have hLn : (commL (z.map (·.1.ts)) zm).length ≤ nm := by rw [← HMM.out.len]; exact commL_le _ _
      have hLt : ∀ x ∈ commL (z.map (·.1.ts)) zm, x < 18446744073709551616 := fun x hx => commL_lt _ _ (fun q hq => (HMM.out.each q hq).ts) x hx
      have HLt := Lib.hid hLt
      have hst1 := HSt.out.on hb
      have hrb1 := HRb.out.on hb
      have hs1 := HSz.out
      obtain ⟨wo, hwo⟩ : ∃ wo, wo = wr := ⟨_, rfl⟩
      subst hwo
      have HOfo := Lib.hid hOf
      have HSto := Lib.hid hst1
      have HRbo := Lib.hid hrb1
      have hso : w.heap.size + 2 + 1 ≤ wo.heap.size := by omega
      have hs1a : w1.heap.size ≤ w.heap.size + 2 ∧ w.heap.size + 2 ≤ w1.heap.size := by omega
      clear hLt hin hlt hi hb hOf hst1 hrb1 hs1 hsz
      generalize hLe : commL (z.map (·.1.ts)) zm = L at *
      have HLe := Lib.hid hLe
      clear hLe
      go_wp2_with fail
      refine HCm.out.mono ?_
      rintro e w2 ⟨aL, cL, rfl, hrowL, holdL, hb2⟩
      have HRowL := Lib.hid hrowL
      have HOldL := Lib.hid holdL
      have HBo2 := Lib.hid hb2
      have hs2 := hb2.size
      clear hrowL holdL hb2
      go_wp2_with fail
      go_loopw [4, 10, 12, 38] (fun _ _ _ s38 wr => ∃ (i : Nat) (M : List KV) (x : Value), i ≤ L.length ∧ s38 = .int .i64 i ∧ StoreAt wr w.heap.size M ∧ M.length ≤ i * 900 ∧ Blk wr (w.heap.size + 1) [.map (some w.heap.size), x] 58 ∧ OfAt wr w1.heap.size (w1.heap.size + 1) z F k ∧ serialL zm z [] L = serialL zm z M (L.drop i) ∧ Mod [w.heap.size + 1, w.heap.size] w2 wr) (fun _ _ _ s38 _ => L.length - (intOf s38).toNat)
      case atStart => exact ⟨0, [], _, by omega, rfl, HSto.out.on HBo2.out, by simp, HRbo.out.on HBo2.out, HOfo.out.on HBo2.out, rfl, Mod.refl _ _⟩
      case round =>
        obtain ⟨i, M, xw, hi, rfl, hst, hMl, hrb, hOf, hser, hm⟩ := hrel
        have hsm := hm.size
        have hbw : Below w.heap.size w wr := (HBw.out.trans (HBo2.out.mono HBw.out.size)).trans (hm.below (fun x hx => by simp at hx; omega) (by omega))
        by_cases hlt : i < L.length
        · have hil : (i : Int) < (L.length : Int) := by omega
          obtain ⟨ts, htsL⟩ : ∃ ts, L[i]? = some ts := ⟨_, List.getElem?_eq_getElem hlt⟩
          obtain ⟨gL, oL, rfl, hgL, hcL⟩ := HRowL.out.at_ (by omega)
          have d0 := hcL i _ (u64s_nth L i ts htsL)
          have hgL2 : gL ∉ [w.heap.size + 1, w.heap.size] := by have := HOldL.out gL oL rfl; simp; omega
          have k0 := (hm.cell hgL hgL2).trans d0
          have hts : ts < 18446744073709551616 := HLt.out ts (List.mem_of_getElem? htsL)
          have hdrop : L.drop i = ts :: L.drop (i + 1) := by
            obtain ⟨h1, rfl⟩ := List.getElem?_eq_some_iff.1 htsL
            exact List.drop_eq_getElem_cons h1
          have hi900 : i * 900 ≤ 900 * 900 := Nat.mul_le_mul_right _ (by omega)
          rw [hdrop] at hser
          clear d0 hcL htsL hdrop
          -- the box of ts, the new map, the store into the replay
          have hb3 := (Below.refl wr.heap.size wr).alloc (Nat.le_refl _) (.cells #[.int .u64 (ts : Nat)] 33)
          have hTs : Blk (wr.alloc (.cells #[.int .u64 (ts : Nat)] 33)) wr.heap.size [.int .u64 (ts : Nat)] 33 := Blk.new wr [.int .u64 (ts : Nat)] _
          have hMm := VMap.made_run (w := wr.alloc (.cells #[.int .u64 (ts : Nat)] 33)) (k := 9) (e := 68) (t := 56) Tryz.underlying56
          rw [World.size_alloc] at hMm
          have hb4 := hb3.trans (((Below.refl _ _).alloc (Nat.le_refl _) (.map #[] 0)).mono hb3.size)
          have hwr0 : WroteAt ((wr.alloc (.cells #[.int .u64 (ts : Nat)] 33)).alloc (.map #[] 0)) (wr.heap.size + 1) [] := by
            have := WroteAt.made (wr.alloc (.cells #[.int .u64 (ts : Nat)] 33))
            rw [World.size_alloc] at this
            exact this
          have hsz4 : ((wr.alloc (.cells #[.int .u64 (ts : Nat)] 33)).alloc (.map #[] 0)).heap.size = wr.heap.size + 2 := by simp
          have hst4 := hst.on hb4
          have hrb4 := hrb.on hb4
          have hOf4 := hOf.on hb4
          have HOfq := Lib.hid hOf
          have hTs4 := hTs.alloc (.map #[] 0)
          have hm4 := hm.thenBelow hb4
          have z0 := hrb4.free 1
          have z1 : ((wr.alloc (.cells #[.int .u64 (ts : Nat)] 33)).alloc (.map #[] 0)).cell? ⟨w.heap.size + 1, 1, none⟩ = some xw := by rw [hrb4.cell]; rfl
          have hset : Mod [w.heap.size + 1] ((wr.alloc (.cells #[.int .u64 (ts : Nat)] 33)).alloc (.map #[] 0)) (((wr.alloc (.cells #[.int .u64 (ts : Nat)] 33)).alloc (.map #[] 0)).setCell ⟨w.heap.size + 1, 1, none⟩ (.map (some (wr.heap.size + 1)))) := (Mod.refl _ _).setCell _ _ (.inl (by simp))
          have hrb5 : Blk (((wr.alloc (.cells #[.int .u64 (ts : Nat)] 33)).alloc (.map #[] 0)).setCell ⟨w.heap.size + 1, 1, none⟩ (.map (some (wr.heap.size + 1)))) (w.heap.size + 1) [.map (some w.heap.size), .map (some (wr.heap.size + 1))] 58 := hrb4.set 1 (.map (some (wr.heap.size + 1)))
          have hRep5 := Lib.hid (show RepAt (((wr.alloc (.cells #[.int .u64 (ts : Nat)] 33)).alloc (.map #[] 0)).setCell ⟨w.heap.size + 1, 1, none⟩ (.map (some (wr.heap.size + 1)))) (w.heap.size + 1) w.heap.size (wr.heap.size + 1) M [] from
            ⟨hrb5, hst4.mod hset (by simp), hwr0.mod hset (by simp; omega), by omega, by omega, by omega⟩)
          have hTs5 := hTs4.mod hset (by simp; omega)
          have hOf5 := hOf4.mod hset (fun x hx => by simp at hx; omega)
          have hm5 := hm4.trans (hset.mono (S' := [w.heap.size + 1, w.heap.size]) (fun x hx => by simp at hx; left; simp [hx]))
          clear hst4 hrb4 hOf4 hTs4 hm4 hrb5 hwr0 hst hrb hOf hm hTs hb3 hb4
          go_upto_region 12 with fail
          clear z0 z1 hMm k0
          have hsz5 : (((wr.alloc (.cells #[.int .u64 (ts : Nat)] 33)).alloc (.map #[] 0)).setCell ⟨w.heap.size + 1, 1, none⟩ (.map (some (wr.heap.size + 1)))).heap.size = wr.heap.size + 2 := by simp
          generalize ((wr.alloc (.cells #[.int .u64 (ts : Nat)] 33)).alloc (.map #[] 0)).setCell ⟨w.heap.size + 1, 1, none⟩ (.map (some (wr.heap.size + 1))) = w5 at *
          have HSz5 := Lib.hid hsz5
          have hbw5 : Below w.heap.size w w5 := (HBw.out.trans (HBo2.out.mono HBw.out.size)).trans (hm5.below (fun x hx => by simp at hx; omega) (by omega))
          have HCl := Lib.hid (show Calls Tryz.prog 18 #[.slice am nm cm, .int .u64 ts] w5 fun e w' => ∃ (a : Option Addr) (c : Nat), e = .returned (.slice a (callsL ts zm).length c) ∧ RowsAt w' a (callsL ts zm).length c 1 (i64s (callsL ts zm)) ∧ (∀ g o, a = some ⟨g, o, none⟩ → w5.heap.size ≤ g) ∧ Below w5.heap.size w5 w' from calls_any w5 am nm cm zm (HMM.out.on hbw5) (by omega) ts (hC ts))
          have HCn := Lib.hid (show (callsL ts zm).length ≤ nm from by
            have h1 := indsP_le ts zm zm.length
            have h2 : (callsL ts zm).length = (indsL ts zm).length := isort_length _ _
            have h3 := HMM.out.len
            rw [h2]
            exact Nat.le_trans h1 (by omega))
          have HCi := Lib.hid (show ∀ x ∈ callsL ts zm, x < nm from fun x hx => by
            have h1 := indsL_mem ts zm x ((isort_perm _ _).mem_iff.1 hx)
            have h3 := HMM.out.len
            omega)
          have HBw5 := Lib.hid hbw5
          have HTs5 := Lib.hid hTs5
          have HOf5 := Lib.hid hOf5
          have HM5 := Lib.hid hm5
          have HSer := Lib.hid (show serialL zm z [] L = match runC zm M [] (callsL ts zm) with
              | (some i, _, _) => (i : Int)
              | (none, M2, W2) => if endedB W2 (entsOf z ts) then serialL zm z M2 (L.drop (i + 1)) else firstAt (askC ts) 0 zm from hser)
          have d0 : w5.cell? ⟨wr.heap.size, 0, none⟩ = some (.int .u64 (ts : Nat)) := by rw [hTs5.cell]; rfl
          clear hser hbw5 hTs5 hOf5 hm5 hset hsz4 hsz5
          generalize callsL ts zm = cs at *
          go_wp2_with fail
          refine HCl.out.mono ?_
          rintro e w6 ⟨aC, cC, rfl, hrowC, holdC, hb6⟩
          have HRowC := Lib.hid hrowC
          have HOldC := Lib.hid holdC
          have HB6 := Lib.hid hb6
          have hs6 := hb6.size
          have hs5 := HSz5.out
          clear hrowC holdC hb6 d0 hbw
          have hcn := HCn.out
          obtain ⟨wq, hwq⟩ : ∃ wq, wq = wr := ⟨_, rfl⟩
          subst hwq
          have hs5a : wq.heap.size + 2 ≤ w5.heap.size ∧ w5.heap.size ≤ wq.heap.size + 2 := by omega
          clear hs5
          go_wp2_with fail
          go_loopw [4, 12, 50] (fun _ _ s50 wr => ∃ (j : Nat) (M2 : List KV) (W2 : List Rec), j ≤ cs.length ∧ s50 = .int .i64 j ∧ RepAt wr (w.heap.size + 1) w.heap.size (wq.heap.size + 1) M2 W2 ∧ M2.length ≤ i * 900 + j ∧ W2.length ≤ j ∧ runC zm M [] cs = runC zm M2 W2 (cs.drop j) ∧ Mod [w.heap.size, wq.heap.size + 1] w6 wr) (fun _ _ s50 _ => cs.length - (intOf s50).toNat)
          case atStart => exact ⟨0, M, [], by omega, rfl, hRep5.out.on HB6.out, by omega, by simp, rfl, Mod.refl _ _⟩
          case round =>
            obtain ⟨j, M2, W2, hj, rfl, hrep, hM2, hW2, hrun, hm⟩ := hrel
            have hsm2 := hm.size
            have hbw6 : Below w.heap.size w w6 := HBw5.out.trans (HB6.out.mono HBw5.out.size)
            have hbwr : Below w.heap.size w wr := hbw6.trans (hm.below (fun x hx => by simp at hx; omega) hbw6.size)
            by_cases hltj : j < cs.length
            · have hjl : (j : Int) < (cs.length : Int) := by omega
              obtain ⟨ix, hix⟩ : ∃ ix, cs[j]? = some ix := ⟨_, List.getElem?_eq_getElem hltj⟩
              obtain ⟨gC, oC, rfl, hgC, hcC⟩ := HRowC.out.at_ (by omega)
              have d1 := hcC j _ (i64s_nth cs j ix hix)
              have hgC2 : gC ∉ [w.heap.size, wq.heap.size + 1] := by have := HOldC.out gC oC rfl; simp; omega
              have k1 := (hm.cell hgC hgC2).trans d1
              have hixn : ix < nm := HCi.out ix (List.mem_of_getElem? hix)
              have hixl : (ix : Int) < (nm : Int) := by omega
              obtain ⟨q, gm, om, hq, hqz, rfl, hgm, hcm⟩ := (HMM.out.on hbwr).row hixn
              have HCM := Lib.hid hcm
              have hdrop : cs.drop j = ix :: cs.drop (j + 1) := by
                obtain ⟨h1, rfl⟩ := List.getElem?_eq_some_iff.1 hix
                exact List.drop_eq_getElem_cons h1
              have HRun := Lib.hid (show runC zm M [] cs = if rightB M2 q then runC zm (rightM M2 q) (rightW W2 q) (cs.drop (j + 1)) else (some ix, M2, W2) by
                rw [hrun, hdrop]
                show (match zm[ix]? with | none => (none, M2, W2) | some q => if rightB M2 q then runC zm (rightM M2 q) (rightW W2 q) (cs.drop (j + 1)) else (some ix, M2, W2)) = _
                rw [hq])
              have HRt := Lib.hid (right_any wr (w.heap.size + 1) w.heap.size (wq.heap.size + 1) q M2 W2 hrep (by omega) (by omega) ((HMM.out.each q hqz).on hbwr) (HK.out.pn q hqz) (HK.out.kind q hqz))
              have HAsc := Lib.hid hrep.store.asc
              have HM := Lib.hid hm
              have HBwr := Lib.hid hbwr
              clear d1 hcC hix hq hqz hcm hdrop hrun hrep hm hbwr hbw6
              go_wp2_with ((with_reducible refine wpList_loadM rfl _ rfl _ _ _ HCM.out ?_ ?_); rfl)
              refine HRt.out.mono ?_
              rintro e w7 ⟨rfl, hrep7, hm7⟩
              have HB7 := Lib.hid (HBwr.out.trans (hm7.below (fun x hx => by simp at hx; omega) HBwr.out.size))
              have HRep7 := Lib.hid hrep7
              have HM7 := Lib.hid (HM.out.trans hm7)
              clear hrep7 hm7
              cases hrB : rightB M2 q with
              | true =>
                have HR2 := Lib.hid (show runC zm M [] cs = runC zm (rightM M2 q) (rightW W2 q) (cs.drop (j + 1)) by rw [HRun.out, hrB]; rfl)
                have HL1 := Lib.hid (show (rightM M2 q).length ≤ i * 900 + (j + 1) by have := rightM_length HAsc.out q; omega)
                have HL2 := Lib.hid (show (rightW W2 q).length ≤ j + 1 by have := rightW_length W2 q; omega)
                clear hrB
                go_wp2_with fail
                go_roundw
                case rel => exact ⟨j + 1, _, _, by omega, by go_num, HRep7.out, HL1.out, HL2.out, HR2.out, HM7.out⟩
                case measure => simp [intOf]; omega
              | false =>
                have HR2 := Lib.hid (show serialL zm z [] L = (ix : Int) by rw [HSer.out, HRun.out, hrB]; rfl)
                clear hrB
                go_wp2_with fail
                go_ret
                exact ⟨by rw [HLe.out, HR2.out]; try rfl, HB7.out⟩
            · have hgej : ¬ (j : Int) < (cs.length : Int) := by omega
              have HR2 := Lib.hid (show serialL zm z [] L = if endedB W2 (entsOf z ts) then serialL zm z M2 (L.drop (i + 1)) else firstAt (askC ts) 0 zm by
                rw [HSer.out, hrun, List.drop_eq_nil_of_le (by omega)]; rfl)
              have hofm : Mod [w.heap.size, wq.heap.size + 1] w5 wr := (Mod.of_below HB6.out).trans hm
              have hofr : OfAt wr w1.heap.size (w1.heap.size + 1) z F k := by
                refine ⟨HOf5.out.map.mod hofm (by simp; omega), HOf5.out.cnt, fun t => ownsRow_mod (HOf5.out.row t) hofm (fun s hs e => ?_), HOf5.out.apart, HOf5.out.obl⟩
                have h1 := (HOf5.out.row t).lt s e
                have h2 := HM5.out
                simp at hs
                rcases hs with rfl | rfl
                · omega
                · have h3 := (HOfq.out.row t).lt _ e; omega
              have hlk := hofr.look ts hts
              have htb : wr.cell? ⟨wq.heap.size, 0, none⟩ = some (.int .u64 (ts : Nat)) := by rw [(HTs5.out.mod hofm (by simp; omega)).cell]; rfl
              obtain ⟨ao, co, hvo⟩ := own_slice (hofr.row ts)
              rw [hvo] at hlk
              have hro := hofr.row ts
              rw [hvo] at hro
              have hents : EntsAt wr ao (ofZ z ts).length co (ofZ z ts) := ⟨rfl, (own_rows hro).1, fun q hq => (HH.out.each q (List.mem_filter.1 hq).1).on hbwr⟩
              have HEn := Lib.hid (ended_any wr (w.heap.size + 1) w.heap.size (wq.heap.size + 1) M2 W2 hrep ao (ofZ z ts).length co (ofZ z ts) hents (by have := List.length_filter_le (fun q : EZ => decide (q.1.ts = ts)) z; have h2 := HH.out.len; show (z.filter _).length ≤ _; omega) (fun q hq => HO.out q (List.mem_filter.1 hq).1))
              have htl : wq.heap.size < wr.heap.size := by omega
              have HIx := Lib.hid (fun (w' : World) (hb' : Below wr.heap.size wr w') => indexM_any w' (askC ts) 22 rfl wq.heap.size ts ((hb'.cell (p := ⟨wq.heap.size, 0, none⟩) htl).trans htb) (by have := hb'.size; omega) rfl am nm cm zm (HMM.out.on (hbwr.trans (hb'.mono hbwr.size))) (by omega))
              have HEo := Lib.hid (show entsOf z ts = (ofZ z ts).map (·.2) from rfl)
              have HRep := Lib.hid hrep
              have HOfr := Lib.hid hofr
              have HMo := Lib.hid (show Mod [w.heap.size + 1, w.heap.size] w2 wr from HM5.out.on hofm (fun x hx => by
                simp at hx
                rcases hx with hx | hx
                · left; simp [hx]
                · right; omega))
              have HBwr := Lib.hid hbwr
              clear hrun hofm hofr hvo hro hents hrep hm hbwr hbw6
              go_wp2_with fail
              refine HEn.out.mono ?_
              rintro e w8 ⟨rfl, hb8⟩
              have HB8 := Lib.hid hb8
              have htb8 := (hb8.cell (p := ⟨wq.heap.size, 0, none⟩) htl).trans htb
              clear hb8 hlk htb
              cases hen : endedB W2 ((ofZ z ts).map (·.2)) with
              | true =>
                have HR3 := Lib.hid (show serialL zm z [] L = serialL zm z M2 (L.drop (i + 1)) by rw [HR2.out, HEo.out, hen]; rfl)
                have HL9 := Lib.hid (show M2.length ≤ (i + 1) * 900 by omega)
                clear hen htb8
                go_wp2_with fail
                go_roundw
                case rel => exact ⟨i + 1, M2, _, by omega, by go_num, HRep.out.store.on HB8.out, HL9.out, HRep.out.blk.on HB8.out, HOfr.out.on HB8.out, HR3.out, HMo.out.thenBelow HB8.out⟩
                case measure => simp [intOf]; omega
              | false =>
                have HR3 := Lib.hid (show serialL zm z [] L = firstAt (askC ts) 0 zm by rw [HR2.out, HEo.out, hen]; rfl)
                have HI8 := Lib.hid (HIx.out w8 HB8.out)
                clear hen htb8
                go_wp2_with fail
                refine HI8.out.mono ?_
                rintro e w9 ⟨rfl, hb9⟩
                have HB9 := Lib.hid ((HBwr.out.trans (HB8.out.mono HBwr.out.size)).trans (hb9.mono (HBwr.out.trans (HB8.out.mono HBwr.out.size)).size))
                clear hb9
                go_wp2_with fail
                go_ret
                exact ⟨by rw [HLe.out, HR3.out]; try rfl, HB9.out⟩
        · have hge2 : ¬ (i : Int) < (L.length : Int) := by omega
          have HR3 := Lib.hid (show serialL zm z [] L = -1 by rw [hser, List.drop_eq_nil_of_le (by omega)]; rfl)
          have HB9 := Lib.hid hbw
          clear hst hrb hOf hser hm hbw
          go_wp2_with fail
          go_ret
          exact ⟨by rw [HLe.out, HR3.out]; try rfl, HB9.out⟩
end Go.Proofs.YtffianjbljgnaaaGreat
