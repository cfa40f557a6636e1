/-
  The law's own run: the switch over what a transaction does. No condition but sizes that a machine has. (Printed by gen_run.py.)
-/
import Derived.Test.YtffianjbljgnaaaScanP
import Derived.Test.YtffianjbljgnaaaHelp27
import Derived.Test.YtffianjbljgnaaaPlan
import Derived.Deep.DeepCutAuto
import Derived.Deep.CutBlock
namespace Go.Proofs.Ytffianjbljgnaaa
set_option linter.unusedVariables false
set_option linter.unusedSimpArgs false
open Go.RowKit Go.Maps

/-- Parts of a text. -/
def hdC : Code → Code
  | .seq a _ => a
  | c => c
def tlC : Code → Code
  | .seq _ b => b
  | c => c
def inC : Code → Code
  | .block _ c => c
  | .loop c => c
  | c => c
def thC : Code → Code
  | .cond _ a _ => a
  | c => c
def elC : Code → Code
  | .cond _ _ b => b
  | c => c
set_option maxRecDepth 100000 in
set_option maxHeartbeats 16000000 in
theorem switch_any (w wr w6 : World) (B i k ln eb db xb dk dy dh dv kk : Nat) (l : List (Option Nat)) (C : List Nat) (X0 gs : List MZ) (Z0 : List EZ) (M : List KV) (W : List Rec) (ea : Option Addr) (ec : Nat) (a4 : Option Addr) (c4 : Nat) (u5 : Value)
    (hX6 : Blk w6 xb (mdCells ⟨10 + i, (k : Int) + 1, 1 + (kk : Int), 10 + i, letter 97 (dy % 6), [], [], true, 10 + i, (k : Int) + 1, 0, false, [], none, 0, 0, ln, ln⟩) 37) (hB6 : Below wr.heap.size wr w6) (hD6 : Blk w6 db (deedCells ⟨dk, dy, dh, dv⟩) 66)
    (hRun : RunAt B wr B (.slice a4 ln c4) u5 l C (X0 ++ gs) Z0 M) (hTx : TxAt B wr l eb (10 + i) ea ec W) (hB1 : Below B w wr) (hxl : wr.heap.size ≤ xb) (hdx : db < xb) (hMl : M.length ≤ i * 6 + k) (hLet : LetM M) (hlm : i < 10) (hlk6 : k < 6) (hWx : W.length ≤ 1000) (k4 : dv < 256) (hk4 : kk < 4)
    {y0 y1 y2 y3 y4 y5 y7 y8 y10 y11 y16 y17 y18 y19 y20 y21 y22 y23 y24 y25 y26 y27 y28 y29 y30 y31 y32 y33 y34 y35 y36 y37 y38 y39 y40 y41 y42 y43 y44 y45 y46 y47 y48 y49 y50 y51 y52 y53 y54 y55 y56 y57 y58 y59 y60 y61 y62 y63 y64 y65 y66 y67 y68 y69 y70 y71 y72 y73 y74 y75 y76 y77 y78 y79 y80 y81 y82 y83 y84 y85 y86 y87 y88 y89 y90 y92 y93 y94 y95 y96 y97 y98 y99 y100 y101 y102 y103 y104 y105 y106 y107 y108 y109 y110 y111 y112 y113 y114 y115 y116 y117 y118 y119 y120 y121 y122 y123 y124 y125 y126 y127 y128 y129 y130 y131 y132 y133 y134 y135 y136 y137 y138 y139 y140 y141 y142 y143 y144 y145 y146 y147 y148 y149 y150 y151 y152 y153 y154 y155 y156 y157 y158 y159 y160 y161 y162 y163 y164 y165 y166 y167 y168 y169 y170 y171 y172 y173 y174 y175 y176 y177 y178 y179 y180 y181 y182 y183 y184 y185 y186 y187 y188 y189 y190 y191 y192 y193 y194 y195 y196 y197 y198 y199 y200 y201 y202 y203 y204 y205 y206 y207 y208 : Value} {K : Act → World → Prop} {Q : Exit → Act → World → Prop}
    (hK : ∀ (z16 z17 z18 z19 z20 z21 z92 z93 z94 z95 z96 z97 z98 z99 z100 z101 z102 z103 z104 z105 z106 z107 z108 z109 z110 z111 z112 z113 z114 z115 z116 z117 z118 z119 z120 z121 z122 z123 z124 z125 z126 z127 z128 z129 z130 z131 z132 z133 z134 z135 z136 z137 z138 z139 z140 z141 z142 z143 z144 z145 z146 z147 z148 z149 z150 z151 z152 z153 z154 z155 z156 z157 z158 z159 z160 z161 z162 z163 z164 z165 z166 z167 z168 z169 z170 z171 z172 z173 z174 z175 z176 z177 z178 z179 z180 : Value) (wx : World), CallDone B w wx xb B (.slice a4 ln c4) u5 C (X0 ++ gs) Z0 M W eb (10 + i) ((k : Int) + 1) (letter 97 (dy % 6)) → K ⟨List.toArray (y0 :: y1 :: y2 :: y3 :: y4 :: y5 :: .map (some B) :: y7 :: y8 :: .pointer (some ⟨eb, 0, none⟩) :: y10 :: y11 :: .pointer (some ⟨db, 0, none⟩) :: .string ⟨(letter 97 (dy % 6)).toArray⟩ :: .string ⟨(letter 97 (dh % 7)).toArray⟩ :: .pointer (some ⟨xb, 0, none⟩) :: z16 :: z17 :: z18 :: z19 :: z20 :: z21 :: y22 :: y23 :: y24 :: y25 :: y26 :: y27 :: y28 :: y29 :: y30 :: y31 :: y32 :: y33 :: y34 :: y35 :: y36 :: y37 :: y38 :: y39 :: y40 :: y41 :: y42 :: y43 :: y44 :: y45 :: y46 :: y47 :: y48 :: y49 :: y50 :: y51 :: y52 :: y53 :: y54 :: y55 :: y56 :: y57 :: y58 :: y59 :: y60 :: y61 :: y62 :: y63 :: y64 :: y65 :: y66 :: y67 :: y68 :: y69 :: y70 :: y71 :: y72 :: y73 :: y74 :: y75 :: y76 :: y77 :: y78 :: y79 :: y80 :: y81 :: y82 :: y83 :: y84 :: y85 :: y86 :: y87 :: y88 :: y89 :: y90 :: .int .i64 (1 + (kk : Int)) :: z92 :: z93 :: z94 :: z95 :: z96 :: z97 :: z98 :: z99 :: z100 :: z101 :: z102 :: z103 :: z104 :: z105 :: z106 :: z107 :: z108 :: z109 :: z110 :: z111 :: z112 :: z113 :: z114 :: z115 :: z116 :: z117 :: z118 :: z119 :: z120 :: z121 :: z122 :: z123 :: z124 :: z125 :: z126 :: z127 :: z128 :: z129 :: z130 :: z131 :: z132 :: z133 :: z134 :: z135 :: z136 :: z137 :: z138 :: z139 :: z140 :: z141 :: z142 :: z143 :: z144 :: z145 :: z146 :: z147 :: z148 :: z149 :: z150 :: z151 :: z152 :: z153 :: z154 :: z155 :: z156 :: z157 :: z158 :: z159 :: z160 :: z161 :: z162 :: z163 :: z164 :: z165 :: z166 :: z167 :: z168 :: z169 :: z170 :: z171 :: z172 :: z173 :: z174 :: z175 :: z176 :: z177 :: z178 :: z179 :: z180 :: y181 :: y182 :: y183 :: y184 :: y185 :: y186 :: y187 :: y188 :: y189 :: y190 :: y191 :: y192 :: y193 :: y194 :: y195 :: y196 :: y197 :: y198 :: y199 :: y200 :: y201 :: y202 :: y203 :: y204 :: y205 :: y206 :: y207 :: y208 :: []), []⟩ wx) :
    (tlC (hdC (tlC (tlC (tlC (tlC (tlC (tlC (inC (hdC (tlC (inC (inC (tlC (hdC (tlC (tlC (tlC (inC (hdC (tlC (inC (inC (tlC (hdC (tlC (tlC (tlC (tlC (Try.f7.body.getD .skip)))))))))))))))))))))))))))))).wp Try.prog (Exit.then K Q) ⟨List.toArray (y0 :: y1 :: y2 :: y3 :: y4 :: y5 :: .map (some B) :: y7 :: y8 :: .pointer (some ⟨eb, 0, none⟩) :: y10 :: y11 :: .pointer (some ⟨db, 0, none⟩) :: .string ⟨(letter 97 (dy % 6)).toArray⟩ :: .string ⟨(letter 97 (dh % 7)).toArray⟩ :: .pointer (some ⟨xb, 0, none⟩) :: y16 :: y17 :: y18 :: y19 :: y20 :: y21 :: y22 :: y23 :: y24 :: y25 :: y26 :: y27 :: y28 :: y29 :: y30 :: y31 :: y32 :: y33 :: y34 :: y35 :: y36 :: y37 :: y38 :: y39 :: y40 :: y41 :: y42 :: y43 :: y44 :: y45 :: y46 :: y47 :: y48 :: y49 :: y50 :: y51 :: y52 :: y53 :: y54 :: y55 :: y56 :: y57 :: y58 :: y59 :: y60 :: y61 :: y62 :: y63 :: y64 :: y65 :: y66 :: y67 :: y68 :: y69 :: y70 :: y71 :: y72 :: y73 :: y74 :: y75 :: y76 :: y77 :: y78 :: y79 :: y80 :: y81 :: y82 :: y83 :: y84 :: y85 :: y86 :: y87 :: y88 :: y89 :: y90 :: .int .i64 (1 + (kk : Int)) :: y92 :: y93 :: y94 :: y95 :: y96 :: y97 :: y98 :: y99 :: y100 :: y101 :: y102 :: y103 :: y104 :: y105 :: y106 :: y107 :: y108 :: y109 :: y110 :: y111 :: y112 :: y113 :: y114 :: y115 :: y116 :: y117 :: y118 :: y119 :: y120 :: y121 :: y122 :: y123 :: y124 :: y125 :: y126 :: y127 :: y128 :: y129 :: y130 :: y131 :: y132 :: y133 :: y134 :: y135 :: y136 :: y137 :: y138 :: y139 :: y140 :: y141 :: y142 :: y143 :: y144 :: y145 :: y146 :: y147 :: y148 :: y149 :: y150 :: y151 :: y152 :: y153 :: y154 :: y155 :: y156 :: y157 :: y158 :: y159 :: y160 :: y161 :: y162 :: y163 :: y164 :: y165 :: y166 :: y167 :: y168 :: y169 :: y170 :: y171 :: y172 :: y173 :: y174 :: y175 :: y176 :: y177 :: y178 :: y179 :: y180 :: y181 :: y182 :: y183 :: y184 :: y185 :: y186 :: y187 :: y188 :: y189 :: y190 :: y191 :: y192 :: y193 :: y194 :: y195 :: y196 :: y197 :: y198 :: y199 :: y200 :: y201 :: y202 :: y203 :: y204 :: y205 :: y206 :: y207 :: y208 :: []), []⟩ w6 := by
  have e1 : (tlC (hdC (tlC (tlC (tlC (tlC (tlC (tlC (inC (hdC (tlC (inC (inC (tlC (hdC (tlC (tlC (tlC (inC (hdC (tlC (inC (inC (tlC (hdC (tlC (tlC (tlC (tlC (Try.f7.body.getD .skip)))))))))))))))))))))))))))))) = (tlC (hdC (tlC (tlC (tlC (tlC (tlC (tlC (inC (hdC (tlC (inC (inC (tlC (hdC (tlC (tlC (tlC (inC (hdC (tlC (inC (inC (tlC (hdC (tlC (tlC (tlC (tlC (Try.f7.body.getD .skip)))))))))))))))))))))))))))))) := rfl
  conv at e1 => rhs; unfold Try.f7; dsimp only [tlC, hdC, inC, thC, elC, Option.getD]
  rw [e1]
  clear e1
  let hBP : Exit → Act → World → Prop := bodyPost Try.prog Try.f7 (fun _ _ => True)
  have HK := Lib.hid hK
  have HX6 := Lib.hid hX6
  have HB6 := Lib.hid hB6
  have HD6 := Lib.hid hD6
  have HRun := Lib.hid hRun
  have HTx := Lib.hid hTx
  have HB1 := Lib.hid hB1
  clear hK hX6 hB6 hD6 hRun hTx hB1
  have hmaxl : (letter 97 (dy % 6)).length ≤ maxLen := by show 1 ≤ maxLen; decide
  have HR6 := Lib.hid (HRun.out.on HB6.out)
  have HT6 := Lib.hid (HTx.out.on HB6.out)
  have hB6s := HB6.out.size
  have HBw6 := Lib.hid (show Below B w w6 from HB1.out.trans (HB6.out.mono (by have := HB1.out.size; have := HRun.out.big; omega)))
  have hBw := HRun.out.big
  have hMx : M.length ≤ 1000000 := by omega
  have hk03 : kk = 0 ∨ kk = 1 ∨ kk = 2 ∨ kk = 3 := by omega
  rcases hk03 with rfl | rfl | rfl | rfl
  · obtain ⟨kx, hlook⟩ := HR6.out.map.looks (letter 97 (dy % 6)) hmaxl
    have HV1 := Lib.hid (show (look M (letter 97 (dy % 6))).isSome = (look M (letter 97 (dy % 6))).isSome from rfl)
    have hvl := HR6.out.map.val (letter 97 (dy % 6))
    obtain ⟨vv, hvv⟩ : ∃ x, (look M (letter 97 (dy % 6))).getD [] = x := ⟨_, rfl⟩
    obtain ⟨vi, hvi⟩ : ∃ x, (look M (letter 97 (dy % 6))).isSome = x := ⟨_, rfl⟩
    rw [hvv, hvi] at hlook
    rw [hvv] at hvl
    have HRb := Lib.hid (show readB M ⟨10 + i, (k : Int) + 1, 1, 10 + i, (letter 97 (dy % 6)), [], [], true, 10 + i, (k : Int) + 1, 0, vi, vv, none, 0, 0, ln, ln⟩ = true by
      unfold readB
      simp [hvv, hvi])
    clear hvv hvi HV1
    have hbA := (Below.refl w6.heap.size w6).alloc (Nat.le_refl _) (.cells #[.string ⟨kx.toArray⟩, .string ⟨vv.toArray⟩] 47)
    have hX := HX6.out.on hbA
    have f1 := hX.free 12
    have f2 : (w6.alloc (.cells #[.string ⟨kx.toArray⟩, .string ⟨vv.toArray⟩] 47)).cell? ⟨xb, 12, none⟩ = some (.string ⟨#[]⟩) := by rw [hX.cell]; rfl
    have hX2 := hX.set 12 (.string ⟨vv.toArray⟩)
    have f3 := hX2.free 11
    have f4 : ((w6.alloc (.cells #[.string ⟨kx.toArray⟩, .string ⟨vv.toArray⟩] 47)).setCell ⟨xb, 12, none⟩ (.string ⟨vv.toArray⟩)).cell? ⟨xb, 11, none⟩ = some (.bool false) := by rw [hX2.cell]; rfl
    have hX3 : Blk (((w6.alloc (.cells #[.string ⟨kx.toArray⟩, .string ⟨vv.toArray⟩] 47)).setCell ⟨xb, 12, none⟩ (.string ⟨vv.toArray⟩)).setCell ⟨xb, 11, none⟩ (.bool vi)) xb (mdCells ⟨10 + i, (k : Int) + 1, 1, 10 + i, (letter 97 (dy % 6)), [], [], true, 10 + i, (k : Int) + 1, 0, vi, vv, none, 0, 0, ln, ln⟩) 37 := hX2.set 11 (.bool vi)
    have hm : Mod [xb] (w6.alloc (.cells #[.string ⟨kx.toArray⟩, .string ⟨vv.toArray⟩] 47)) (((w6.alloc (.cells #[.string ⟨kx.toArray⟩, .string ⟨vv.toArray⟩] 47)).setCell ⟨xb, 12, none⟩ (.string ⟨vv.toArray⟩)).setCell ⟨xb, 11, none⟩ (.bool vi)) := ((Mod.refl _ _).setCell _ _ (.inl (by simp))).setCell _ _ (.inl (by simp))
    have hbr : Below wr.heap.size wr (((w6.alloc (.cells #[.string ⟨kx.toArray⟩, .string ⟨vv.toArray⟩] 47)).setCell ⟨xb, 12, none⟩ (.string ⟨vv.toArray⟩)).setCell ⟨xb, 11, none⟩ (.bool vi)) :=
      (HB6.out.trans (hbA.mono HB6.out.size)).trans (hm.below (fun x hx => by simp at hx; omega) (by simp; omega))
    have HDone := Lib.hid (show CallDone B w (((w6.alloc (.cells #[.string ⟨kx.toArray⟩, .string ⟨vv.toArray⟩] 47)).setCell ⟨xb, 12, none⟩ (.string ⟨vv.toArray⟩)).setCell ⟨xb, 11, none⟩ (.bool vi)) xb B (.slice a4 ln c4) u5 C (X0 ++ gs) Z0 M W eb (10 + i) ((k : Int) + 1) (letter 97 (dy % 6)) from
      ⟨(⟨10 + i, (k : Int) + 1, 1, 10 + i, (letter 97 (dy % 6)), [], [], true, 10 + i, (k : Int) + 1, 0, vi, vv, none, 0, 0, ln, ln⟩, []), l, ea, ec, hX3, ⟨rfl, World.ownsRow_nil _ _ _ _, by show 10 + i < 18446744073709551616; omega, hmaxl, ⟨by show (0 : Int) ≤ 1; omega, by show (1 : Int) ≤ 10; omega⟩, by show 0 ≤ 1000; omega, hvl⟩,
        HRun.out.on hbr, HTx.out.on hbr, HRb.out, rfl, rfl, rfl, rfl, rfl, (fun x hx => by cases hx), HB1.out.trans (hbr.mono (by have := HB1.out.size; omega))⟩)
    clear hX hX2 hX3 hm hbr hbA HRb
    go_wp2_with fail
    exact HK.out _ _ _ _ _ _ _ _ _ _ _ _ _ _ _ _ _ _ _ _ _ _ _ _ _ _ _ _ _ _ _ _ _ _ _ _ _ _ _ _ _ _ _ _ _ _ _ _ _ _ _ _ _ _ _ _ _ _ _ _ _ _ _ _ _ _ _ _ _ _ _ _ _ _ _ _ _ _ _ _ _ _ _ _ _ _ _ _ _ _ _ _ _ _ _ _ HDone.out
  · obtain ⟨wd, hwd⟩ : ∃ x, x = wr := ⟨_, rfl⟩
    subst hwd
    have hX := HX6.out
    have f1 := hX.free 5
    have f2 : w6.cell? ⟨xb, 5, none⟩ = some (.string ⟨#[]⟩) := by rw [hX.cell]; rfl
    have hX2 : Blk (w6.setCell ⟨xb, 5, none⟩ (.string ⟨(letter 97 (dh % 7)).toArray⟩)) xb (mdCells ⟨10 + i, (k : Int) + 1, 2, 10 + i, (letter 97 (dy % 6)), (letter 97 (dh % 7)), [], true, 10 + i, (k : Int) + 1, 0, false, [], none, 0, 0, ln, ln⟩) 37 := hX.set 5 (.string ⟨(letter 97 (dh % 7)).toArray⟩)
    have hm : Mod [xb] w6 (w6.setCell ⟨xb, 5, none⟩ (.string ⟨(letter 97 (dh % 7)).toArray⟩)) := (Mod.refl _ _).setCell _ _ (.inl (by simp))
    have HB7 := Lib.hid (HB6.out.trans (hm.below (B := wd.heap.size) (fun x hx => by simp at hx; omega) hB6s))
    have HX7 := Lib.hid hX2
    clear hX hX2 hm HR6 HT6
    go_upto_region 28 with fail
    clear f1 f2
    generalize w6.setCell ⟨xb, 5, none⟩ (.string ⟨(letter 97 (dh % 7)).toArray⟩) = w7 at *
    go_wp2_with fail
    go_loopw [18] (fun s18 wx => ∃ (j : Nat) (pa : Option Addr) (pc : Nat), j ≤ 6 ∧ s18 = .int .u8 (97 + (j : Int)) ∧ Blk wx xb (mdCells ⟨10 + i, (k : Int) + 1, 2, 10 + i, (letter 97 (dy % 6)), (letter 97 (dh % 7)), [], true, 10 + i, (k : Int) + 1, 0, false, [], pa, (scanP M (letter 97 (dy % 6)) (letter 97 (dh % 7)) j).length, pc, ln, ln⟩) 37 ∧ wx.ownsRow wd.heap.size 47 2 (.slice pa (scanP M (letter 97 (dy % 6)) (letter 97 (dh % 7)) j).length pc) (scanP M (letter 97 (dy % 6)) (letter 97 (dh % 7)) j).length (pairsCells (scanP M (letter 97 (dy % 6)) (letter 97 (dh % 7)) j)) ∧ (Value.slice pa (scanP M (letter 97 (dy % 6)) (letter 97 (dh % 7)) j).length pc).ownBlock ≠ some xb ∧ Below wd.heap.size wd wx) (fun s18 _ => 103 - (intOf s18).toNat)
    case atStart => exact ⟨0, none, 0, by omega, rfl, HX7.out, World.ownsRow_nil _ _ _ _, by simp [Value.ownBlock], HB7.out⟩
    case round =>
      obtain ⟨j, pa, pc, hj, rfl, hX, hO, hne, hb⟩ := hrel
      have HXj := Lib.hid hX
      have HOj := Lib.hid hO
      have HNe := Lib.hid hne
      have HBj := Lib.hid hb
      have hszj := hb.size
      have hPl := scanP_length M (letter 97 (dy % 6)) (letter 97 (dh % 7)) j
      by_cases hlj : j < 6
      · have hjl : (97 : Int) + (j : Int) < 103 := by omega
        have hwj : IntKind.u8.wrap (97 + (j : Int) + 1) = 97 + (j : Int) + 1 := by rw [IntKind.wrap_u8]; omega
        have hsl : (letter 97 j).length ≤ maxLen := by show 1 ≤ maxLen; decide
        have hbA := (Below.refl wr.heap.size wr).alloc (Nat.le_refl _) (.cells #[.int .u8 (97 + (j : Int))] 5)
        have hrowA : RowAt (wr.alloc (.cells #[.int .u8 (97 + (j : Int))] 5)) wr.heap.size 5 ((letter 97 j).map bv) := by rw [letter_cells 97 j (by omega)]; exact (Blk.new wr [.int .u8 (97 + (j : Int))] 5).row
        have hrunA : (convert 67 9 (.slice (some ⟨wr.heap.size, 0, none⟩) 1 1)).run Try.prog (wr.alloc (.cells #[.int .u8 (97 + (j : Int))] 5)) = .ok (.string ⟨(letter 97 j).toArray⟩) (wr.alloc (.cells #[.int .u8 (97 + (j : Int))] 5)) := conv_string (l := letter 97 j) hrowA _ _ 1 Try.underlying67 Try.underlying5 Try.underlying9
        have hbA2 := hb.trans (hbA.mono hszj)
        obtain ⟨kx, hlook⟩ := (HRun.out.on hbA2).map.looks (letter 97 j) hsl
        obtain ⟨vv, hvv⟩ : ∃ x, (look M (letter 97 j)).getD [] = x := ⟨_, rfl⟩
        obtain ⟨vi, hvi⟩ : ∃ x, (look M (letter 97 j)).isSome = x := ⟨_, rfl⟩
        rw [hvv, hvi] at hlook
        have hone : scanOne M (letter 97 (dy % 6)) (letter 97 (dh % 7)) (letter 97 j) = if vi && (decide ((letter 97 (dy % 6)) ≤ letter 97 j) && decide (letter 97 j < (letter 97 (dh % 7)))) then [(letter 97 j, vv)] else [] := by
          unfold scanOne
          rw [← hvv, ← hvi]
          cases look M (letter 97 j) <;> simp
        have HSucc := Lib.hid (show scanP M (letter 97 (dy % 6)) (letter 97 (dh % 7)) (j + 1) = scanP M (letter 97 (dy % 6)) (letter 97 (dh % 7)) j ++ (if vi && (decide ((letter 97 (dy % 6)) ≤ letter 97 j) && decide (letter 97 j < (letter 97 (dh % 7)))) then [(letter 97 j, vv)] else []) by rw [scanP_succ, hone])
        have hbB := hbA.alloc hbA.size (.cells #[.string ⟨kx.toArray⟩, .string ⟨vv.toArray⟩] 47)
        have hVB : Blk ((wr.alloc (.cells #[.int .u8 (97 + (j : Int))] 5)).alloc (.cells #[.string ⟨kx.toArray⟩, .string ⟨vv.toArray⟩] 47)) (wr.heap.size + 1) [.string ⟨kx.toArray⟩, .string ⟨vv.toArray⟩] 47 := by
          have := Blk.new (wr.alloc (.cells #[.int .u8 (97 + (j : Int))] 5)) [.string ⟨kx.toArray⟩, .string ⟨vv.toArray⟩] 47
          rw [World.size_alloc] at this
          exact this
        have HVB := Lib.hid hVB
        have HBB := Lib.hid hbB
        clear hvv hvi hone hX hO hne hb hbA hrowA hbA2 hbB hVB
        go_upto_region 33 with fail
        clear hrunA hlook
        generalize (wr.alloc (.cells #[.int .u8 (97 + (j : Int))] 5)).alloc (.cells #[.string ⟨kx.toArray⟩, .string ⟨vv.toArray⟩] 47) = wB at *
        have HXB := Lib.hid (HXj.out.on HBB.out)
        have HOB := Lib.hid (ownsRow_mod HOj.out (Mod.of_below (S := []) HBB.out) (by simp))
        have HBB2 := Lib.hid (HBj.out.trans (HBB.out.mono hszj))
        go_cut [143] (fun s143 wx => s143 = .bool (vi && (decide ((letter 97 (dy % 6)) ≤ letter 97 j) && decide (letter 97 j < (letter 97 (dh % 7))))) ∧ wB = wx)
        case first =>
          cases vi with
          | false =>
            go_wp2_with fail
            go_meet
            exact ⟨rfl, rfl⟩
          | true =>
            by_cases h1 : letter 97 j < (letter 97 (dy % 6))
            · have f1 : Op.bytesLess (letter 97 j) (letter 97 (dy % 6)) = true := by rw [Go.Proofs.bytesLess_eq]; exact decide_eq_true h1
              have HIn := Lib.hid (show (true && (decide ((letter 97 (dy % 6)) ≤ letter 97 j) && decide (letter 97 j < (letter 97 (dh % 7))))) = false by rw [decide_eq_false (fun hh => absurd h1 (List.not_lt.2 hh))]; rfl)
              clear h1
              go_wp2_with fail
              go_meet
              exact ⟨by rw [HIn.out], rfl⟩
            · have f1 : Op.bytesLess (letter 97 j) (letter 97 (dy % 6)) = false := by rw [Go.Proofs.bytesLess_eq]; exact decide_eq_false h1
              have hle : decide ((letter 97 (dy % 6)) ≤ letter 97 j) = true := decide_eq_true (List.not_lt.1 h1)
              by_cases h2 : letter 97 j < (letter 97 (dh % 7))
              · have f3 : Op.bytesLess (letter 97 j) (letter 97 (dh % 7)) = true := by rw [Go.Proofs.bytesLess_eq]; exact decide_eq_true h2
                have HIn := Lib.hid (show (true && (decide ((letter 97 (dy % 6)) ≤ letter 97 j) && decide (letter 97 j < (letter 97 (dh % 7))))) = true by rw [hle, decide_eq_true h2]; rfl)
                clear hle h1 h2
                go_wp2_with fail
                go_meet
                exact ⟨by rw [HIn.out], rfl⟩
              · have f3 : Op.bytesLess (letter 97 j) (letter 97 (dh % 7)) = false := by rw [Go.Proofs.bytesLess_eq]; exact decide_eq_false h2
                have HIn := Lib.hid (show (true && (decide ((letter 97 (dy % 6)) ≤ letter 97 j) && decide (letter 97 j < (letter 97 (dh % 7))))) = false by rw [decide_eq_false h2]; simp)
                clear hle h1 h2
                go_wp2_with fail
                go_meet
                exact ⟨by rw [HIn.out], rfl⟩
        obtain ⟨rfl, rfl⟩ := hcut
        have hsx := HSucc.out
        cases hc : (vi && (decide ((letter 97 (dy % 6)) ≤ letter 97 j) && decide (letter 97 j < (letter 97 (dh % 7))))) with
        | false =>
          rw [hc] at hsx
          have HS2 := Lib.hid (show (scanP M (letter 97 (dy % 6)) (letter 97 (dh % 7)) (j + 1)) = (scanP M (letter 97 (dy % 6)) (letter 97 (dh % 7)) j) by rw [hsx]; simp)
          clear hsx hc
          go_wp2_with fail
          go_roundw
          case rel => exact ⟨j + 1, pa, pc, by omega, by go_num, by rw [HS2.out]; exact HXB.out, by rw [HS2.out]; exact HOB.out, by rw [HS2.out]; exact HNe.out, HBB2.out⟩
          case measure => simp [intOf]; omega
        | true =>
          skip
          rw [hc] at hsx
          have HS2 := Lib.hid (show (scanP M (letter 97 (dy % 6)) (letter 97 (dh % 7)) (j + 1)) = (scanP M (letter 97 (dy % 6)) (letter 97 (dh % 7)) j) ++ [(letter 97 j, vv)] by rw [hsx]; simp)
          have hv1 : wB.cell? ⟨wr.heap.size + 1, 1, none⟩ = some (.string ⟨vv.toArray⟩) := by rw [HVB.out.cell]; rfl
          have hx13 : wB.cell? ⟨xb, 13, none⟩ = some (.slice pa (scanP M (letter 97 (dy % 6)) (letter 97 (dh % 7)) j).length pc) := by rw [HXB.out.cell]; rfl
          have hbC := (Below.refl wB.heap.size wB).alloc (Nat.le_refl _) (.cells #[.string ⟨(letter 97 j).toArray⟩, .string ⟨vv.toArray⟩] 47)
          have hNC : Blk (wB.alloc (.cells #[.string ⟨(letter 97 j).toArray⟩, .string ⟨vv.toArray⟩] 47)) wB.heap.size (pairCells (letter 97 j, vv)) 47 := Blk.new wB (pairCells (letter 97 j, vv)) _
          obtain ⟨v', w', hrun, hown', hmod, hblk⟩ := own_append 33 47 33 _ 2 32 Try.underlying33 info_pair rfl (by decide) (by decide) (HOB.out.alloc (.cells #[.string ⟨(letter 97 j).toArray⟩, .string ⟨vv.toArray⟩] 47))
            (by omega) (by have := HBB2.out.size; simp; omega) ⟨wB.heap.size, 0, none⟩ 1 1 (pairCells (letter 97 j, vv)) (by omega) (by omega) rfl
            (fun x u hx => by rw [addr_add', Nat.zero_add, hNC.cell]; exact hx) (pair_one _)
          obtain ⟨pa', pc', rfl⟩ := own_slice hown'
          have hxlB := HXB.out.lt
          have hXw := (HXB.out.on hbC).mod hmod (fun hx => HNe.out (by simpa using hx))
          have hlen : (scanP M (letter 97 (dy % 6)) (letter 97 (dh % 7)) j).length + 1 = (scanP M (letter 97 (dy % 6)) (letter 97 (dh % 7)) (j + 1)).length := by rw [HS2.out]; simp
          have hcells : pairsCells (scanP M (letter 97 (dy % 6)) (letter 97 (dh % 7)) j) ++ pairCells (letter 97 j, vv) = pairsCells (scanP M (letter 97 (dy % 6)) (letter 97 (dh % 7)) (j + 1)) := by rw [HS2.out, pairs_append]; simp [pairsCells]
          rw [hlen, hcells] at hown'
          rw [hlen] at hrun hblk
          have hneq : (Value.slice pa' (scanP M (letter 97 (dy % 6)) (letter 97 (dh % 7)) (j + 1)).length pc').ownBlock ≠ some xb := fun hx => by
            rcases hblk xb hx with h1 | h1
            · exact HNe.out h1
            · simp at h1; omega
          have f5 := hXw.free 13
          have f6 : w'.cell? ⟨xb, 13, none⟩ = some (.slice pa (scanP M (letter 97 (dy % 6)) (letter 97 (dh % 7)) j).length pc) := by rw [hXw.cell]; rfl
          have hX3 : Blk (w'.setCell ⟨xb, 13, none⟩ (.slice pa' (scanP M (letter 97 (dy % 6)) (letter 97 (dh % 7)) (j + 1)).length pc')) xb (mdCells ⟨10 + i, (k : Int) + 1, 2, 10 + i, (letter 97 (dy % 6)), (letter 97 (dh % 7)), [], true, 10 + i, (k : Int) + 1, 0, false, [], pa', (scanP M (letter 97 (dy % 6)) (letter 97 (dh % 7)) (j + 1)).length, pc', ln, ln⟩) 37 := hXw.set 13 (.slice pa' (scanP M (letter 97 (dy % 6)) (letter 97 (dh % 7)) (j + 1)).length pc')
          have hm3 : Mod [xb] w' (w'.setCell ⟨xb, 13, none⟩ (.slice pa' (scanP M (letter 97 (dy % 6)) (letter 97 (dh % 7)) (j + 1)).length pc')) := (Mod.refl _ _).setCell _ _ (.inl (by simp))
          have hO3 := ownsRow_mod hown' hm3 (fun x hx e => by simp at hx; subst hx; exact hneq e)
          have hbw : Below wd.heap.size wd w' := (HBB2.out.trans (hbC.mono HBB2.out.size)).trans (hmod.below (fun x hx => (HOB.out.lt x (by simpa using hx)).1) (by have := HBB2.out.size; simp; omega))
          have HX3 := Lib.hid hX3
          have HO3 := Lib.hid hO3
          have HNe3 := Lib.hid hneq
          have HB3 := Lib.hid (hbw.trans (hm3.below (fun x hx => by simp at hx; omega) hbw.size))
          have HRn := Lib.hid hrun
          clear hrun
          clear hsx hc hbC hNC hmod hblk hX3 hm3 hO3 hneq hbw hXw hlen hcells hown' hxlB
          skip
          go_upto_region 30 with (at_builtin; (with_reducible refine wpList_append_run rfl _ _ _ rfl _ _ _ _ ?_ ?_ HRn.out ?_); rfl; rfl; refine wpList_plain rfl fun K hK => ?_; go_simp; refine hK _ _ ?_; clear hK K; refine wpList_plain rfl fun K hK => ?_; go_simp; refine hK _ _ ?_; clear hK K; refine wpList_plain rfl fun K hK => ?_; go_simp; refine hK _ _ ?_; clear hK K; skip)
          clear f5 f6 hv1 hx13 HRn
          generalize w'.setCell ⟨xb, 13, none⟩ (.slice pa' (scanP M (letter 97 (dy % 6)) (letter 97 (dh % 7)) (j + 1)).length pc') = wF at *
          go_wp2_with fail
          refine ⟨?_, ?measure⟩
          · refine ⟨_, _, _, _, _, _, _, _, _, _, _, _, _, _, _, _, _, _, _, _, _, _, _, _, _, _, _, _, _, _, _, _, _, _, _, _, _, _, _, ?_, rfl⟩
            exact ⟨j + 1, pa', pc', hlj, by go_num, HX3.out, HO3.out, HNe3.out, HB3.out⟩
          case measure => simp [intOf]; omega
      · have hjg : ¬ (97 : Int) + (j : Int) < 103 := by omega
        have hj6 : j = 6 := by omega
        subst hj6
        have hlt6 := hO.lt
        have HDone := Lib.hid (show CallDone B w wr xb B (.slice a4 ln c4) u5 C (X0 ++ gs) Z0 M W eb (10 + i) ((k : Int) + 1) (letter 97 (dy % 6)) from
          ⟨(⟨10 + i, (k : Int) + 1, 2, 10 + i, (letter 97 (dy % 6)), (letter 97 (dh % 7)), [], true, 10 + i, (k : Int) + 1, 0, false, [], pa, (scanP M (letter 97 (dy % 6)) (letter 97 (dh % 7)) 6).length, pc, ln, ln⟩, scanP M (letter 97 (dy % 6)) (letter 97 (dh % 7)) 6), l, ea, ec, hX, ⟨rfl, own_base hO hBw, by show 10 + i < 18446744073709551616; omega, hmaxl, ⟨by show (0 : Int) ≤ 2; omega, by show (2 : Int) ≤ 10; omega⟩, by show (scanP M (letter 97 (dy % 6)) (letter 97 (dh % 7)) 6).length ≤ 1000; omega, Nat.zero_le _⟩,
            HRun.out.on hb, HTx.out.on hb, by
              show rightB M (⟨10 + i, (k : Int) + 1, 2, 10 + i, (letter 97 (dy % 6)), (letter 97 (dh % 7)), [], true, 10 + i, (k : Int) + 1, 0, false, [], pa, (scanP M (letter 97 (dy % 6)) (letter 97 (dh % 7)) 6).length, pc, ln, ln⟩, scanP M (letter 97 (dy % 6)) (letter 97 (dh % 7)) 6) = true
              unfold rightB
              simp only [show ¬ (2 : Int) = 1 by omega, if_false, if_true]
              exact decide_eq_true (scanP_sel HRun.out.map.asc hLet _ _ (by simp [letter])), rfl, rfl, rfl, rfl, rfl, (fun x hx => by
              have h1 := hlt6 x hx
              exact ⟨fun y hy => by have := (HRun.out.hot.lt y x hy).2; omega, h1.2, fun hC => by have := (HRun.out.hot.cold x hC).2; omega⟩), HB1.out.trans (hb.mono (by have := HB1.out.size; omega))⟩)
        clear hX hO hne hb hlt6 HXj HOj HNe HBj
        go_wp2_with fail
        exact HK.out _ _ _ _ _ _ _ _ _ _ _ _ _ _ _ _ _ _ _ _ _ _ _ _ _ _ _ _ _ _ _ _ _ _ _ _ _ _ _ _ _ _ _ _ _ _ _ _ _ _ _ _ _ _ _ _ _ _ _ _ _ _ _ _ _ _ _ _ _ _ _ _ _ _ _ _ _ _ _ _ _ _ _ _ _ _ _ _ _ _ _ _ _ _ _ _ HDone.out
  · skip
    obtain ⟨vc, hvc⟩ : ∃ x, dv % 10 = x := ⟨_, rfl⟩
    have hv10 : vc < 10 := by omega
    have m4 : Int.tmod (dv : Int) 10 = (vc : Int) := by rw [Int.tmod_eq_emod_of_nonneg (by omega)]; omega
    clear hvc
    have hwC : IntKind.u8.wrap (48 + (vc : Int)) = 48 + (vc : Int) := by rw [IntKind.wrap_u8]; omega
    have e0 : w6.cell? ⟨db, 3, none⟩ = some (.int .u8 (dv : Nat)) := by rw [HD6.out.cell]; rfl
    have hbA := (Below.refl w6.heap.size w6).alloc (Nat.le_refl _) (.cells #[.int .u8 (48 + (vc : Int))] 5)
    have hrowA : RowAt (w6.alloc (.cells #[.int .u8 (48 + (vc : Int))] 5)) w6.heap.size 5 ((letter 48 vc).map bv) := by rw [letter_cells 48 vc (by omega)]; exact (Blk.new w6 [.int .u8 (48 + (vc : Int))] 5).row
    have hrunA : (convert 67 9 (.slice (some ⟨w6.heap.size, 0, none⟩) 1 1)).run Try.prog (w6.alloc (.cells #[.int .u8 (48 + (vc : Int))] 5)) = .ok (.string ⟨(letter 48 vc).toArray⟩) (w6.alloc (.cells #[.int .u8 (48 + (vc : Int))] 5)) := conv_string (l := (letter 48 vc)) hrowA _ _ 1 Try.underlying67 Try.underlying5 Try.underlying9
    have hX := HX6.out.on hbA
    have f1 := hX.free 6
    have f2 : (w6.alloc (.cells #[.int .u8 (48 + (vc : Int))] 5)).cell? ⟨xb, 6, none⟩ = some (.string ⟨#[]⟩) := by rw [hX.cell]; rfl
    have hX2 : Blk ((w6.alloc (.cells #[.int .u8 (48 + (vc : Int))] 5)).setCell ⟨xb, 6, none⟩ (.string ⟨(letter 48 vc).toArray⟩)) xb (mdCells ⟨10 + i, (k : Int) + 1, 3, 10 + i, (letter 97 (dy % 6)), [], (letter 48 vc), true, 10 + i, (k : Int) + 1, 0, false, [], none, 0, 0, ln, ln⟩) 37 := hX.set 6 (.string ⟨(letter 48 vc).toArray⟩)
    have hmB : Mod [xb] (w6.alloc (.cells #[.int .u8 (48 + (vc : Int))] 5)) ((w6.alloc (.cells #[.int .u8 (48 + (vc : Int))] 5)).setCell ⟨xb, 6, none⟩ (.string ⟨(letter 48 vc).toArray⟩)) := (Mod.refl _ _).setCell _ _ (.inl (by simp))
    have hbB : Below wr.heap.size wr ((w6.alloc (.cells #[.int .u8 (48 + (vc : Int))] 5)).setCell ⟨xb, 6, none⟩ (.string ⟨(letter 48 vc).toArray⟩)) := (HB6.out.trans (hbA.mono HB6.out.size)).trans (hmB.below (fun x hx => by simp at hx; omega) (by simp; omega))
    have HXB := Lib.hid hX2
    have HBB := Lib.hid hbB
    clear hX hX2 hmB hbB hbA hrowA
    go_upto_region 37 with fail
    clear f1 f2 e0 m4 hwC hrunA
    generalize ((w6.alloc (.cells #[.int .u8 (48 + (vc : Int))] 5)).setCell ⟨xb, 6, none⟩ (.string ⟨(letter 48 vc).toArray⟩)) = wB at *
    have g6 : wB.cell? ⟨xb, 6, none⟩ = some (.string ⟨(letter 48 vc).toArray⟩) := by rw [HXB.out.cell]; rfl
    have HRB := Lib.hid (HRun.out.on HBB.out)
    have HTB := Lib.hid (HTx.out.on HBB.out)
    obtain ⟨wC, hrunM, hMC, hmC⟩ := HRB.out.map.puts hMx (letter 97 (dy % 6)) (letter 48 vc) hmaxl (by show 1 ≤ 1000; omega)
    have hRC := HRB.out.mapped hmC hMC
    have hTC := HTB.out.mod HRB.out.hot hmC (fun x hx => .inr ⟨0, by omega, by simp at hx; subst hx; exact HRB.out.l0⟩)
    have hBl := (HRun.out.hot.lt 0 B HRun.out.l0).2
    have hXC := HXB.out.mod hmC (by simp; omega)
    have hbwB : Below B w wB := HB1.out.trans (HBB.out.mono (by have := HB1.out.size; omega))
    have hbwC : Below B w wC := hbwB.trans (hmC.below (fun x hx => by simp at hx; omega) HRB.out.big)
    have HXC := Lib.hid hXC
    have HRC := Lib.hid hRC
    have HTC := Lib.hid hTC
    have HBC := Lib.hid hbwC
    have HLa := Lib.hid (last_any wC B (.slice ea W.length ec) W hTC.ops hRC.big hWx (letter 97 (dy % 6)) 0 false (letter 48 vc))
    have e2 : wC.cell? ⟨eb, 2, none⟩ = some (.slice ea W.length ec) := by rw [hTC.blk.cell]; rfl
    have e6 : wC.cell? ⟨xb, 6, none⟩ = some (.string ⟨List.toArray (letter 48 vc)⟩) := by rw [hXC.cell]; rfl
    have hxbl : ∀ x, (Value.slice ea W.length ec).ownBlock = some x → B ≤ x ∧ x < wr.heap.size := fun x hx => HRun.out.hot.lt 4 x (by rw [HTx.out.l4, hx])
    have hebl : B ≤ eb ∧ eb < wr.heap.size := HRun.out.hot.lt 3 eb HTx.out.l3
    have HEbl := Lib.hid (show (B ≤ eb ∧ eb < wr.heap.size) ∧ wr.heap.size ≤ xb from ⟨hebl, hxl⟩)
    have HXbl := Lib.hid hxbl
    have HOk := Lib.hid (show ∀ r ∈ setR W (⟨(letter 97 (dy % 6)), 0, false, (letter 48 vc)⟩ : Rec), r.ok from fun r hr => by
      rcases setR_mem W _ r hr with rfl | hr
      · exact ⟨hmaxl, by show List.length (letter 48 vc) ≤ maxLen; show 1 ≤ maxLen; decide, by show (0 : Nat) < 18446744073709551616; omega⟩
      · exact HTx.out.ok r hr)
    clear hRC hTC hXC hbwB hbwC hMC hmC hebl hxbl hBl
    go_upto_region 38 with fail
    clear hrunM
    go_wp2_with fail
    refine HLa.out.mono ?_
    rintro e w7 ⟨v', rfl, hown, hmL, hblk⟩
    obtain ⟨a', c', rfl, hT8, hR8, e3, fz⟩ := HTC.out.wrote HRC.out hown hmL hblk HOk.out
    have hm8 : Mod [eb] w7 (w7.setCell ⟨eb, 2, none⟩ (.slice a' (setR W (⟨(letter 97 (dy % 6)), 0, false, (letter 48 vc)⟩ : Rec)).length c')) := (Mod.refl _ _).setCell _ _ (.inl (by simp))
    have hX8 := (HXC.out.mod hmL (fun hx => by have := HXbl.out xb (by simpa using hx); have := HEbl.out; omega)).mod hm8 (by have := HEbl.out; simp; omega)
    have hb7 : Below B w w7 := HBC.out.trans (hmL.below (fun x hx => (HXbl.out x (by simpa using hx)).1) HRC.out.big)
    have HDone := Lib.hid (show CallDone B w (w7.setCell ⟨eb, 2, none⟩ (.slice a' (setR W (⟨(letter 97 (dy % 6)), 0, false, (letter 48 vc)⟩ : Rec)).length c')) xb B (.slice a4 ln c4) u5 C (X0 ++ gs) Z0 M W eb (10 + i) ((k : Int) + 1) (letter 97 (dy % 6)) from
      ⟨(⟨10 + i, (k : Int) + 1, 3, 10 + i, (letter 97 (dy % 6)), [], (letter 48 vc), true, 10 + i, (k : Int) + 1, 0, false, [], none, 0, 0, ln, ln⟩, []), _, a', c', hX8, ⟨rfl, World.ownsRow_nil _ _ _ _, by show 10 + i < 18446744073709551616; omega, hmaxl, ⟨by show (0 : Int) ≤ 3; omega, by show (3 : Int) ≤ 10; omega⟩, by show 0 ≤ 1000; omega, Nat.zero_le _⟩,
        hR8, hT8, rfl, rfl, rfl, rfl, rfl, rfl, (fun x hx => by cases hx), hb7.trans (hm8.below (fun x hx => by simp at hx; have := HEbl.out; omega) (Nat.le_trans HRC.out.big hmL.size))⟩)
    clear hown hmL hblk hT8 hR8 hm8 hX8 hb7
    go_wp2_with fail
    exact HK.out _ _ _ _ _ _ _ _ _ _ _ _ _ _ _ _ _ _ _ _ _ _ _ _ _ _ _ _ _ _ _ _ _ _ _ _ _ _ _ _ _ _ _ _ _ _ _ _ _ _ _ _ _ _ _ _ _ _ _ _ _ _ _ _ _ _ _ _ _ _ _ _ _ _ _ _ _ _ _ _ _ _ _ _ _ _ _ _ _ _ _ _ _ _ _ _ HDone.out
  · skip
    have HXB := Lib.hid (show Blk w6 xb (mdCells ⟨10 + i, (k : Int) + 1, 4, 10 + i, (letter 97 (dy % 6)), [], [], true, 10 + i, (k : Int) + 1, 0, false, [], none, 0, 0, ln, ln⟩) 37 from HX6.out)
    have HBB := HB6
    have HRB := HR6
    have HTB := HT6
    generalize hwB : w6 = wB at *
    obtain ⟨wC, hrunM, hMC, hmC⟩ := HRB.out.map.drops (letter 97 (dy % 6)) hmaxl 0
    have hRC := HRB.out.mapped hmC hMC
    have hTC := HTB.out.mod HRB.out.hot hmC (fun x hx => .inr ⟨0, by omega, by simp at hx; subst hx; exact HRB.out.l0⟩)
    have hBl := (HRun.out.hot.lt 0 B HRun.out.l0).2
    have hXC := HXB.out.mod hmC (by simp; omega)
    have hbwB : Below B w wB := HB1.out.trans (HBB.out.mono (by have := HB1.out.size; omega))
    have hbwC : Below B w wC := hbwB.trans (hmC.below (fun x hx => by simp at hx; omega) HRB.out.big)
    have HXC := Lib.hid hXC
    have HRC := Lib.hid hRC
    have HTC := Lib.hid hTC
    have HBC := Lib.hid hbwC
    have HLa := Lib.hid (last_any wC B (.slice ea W.length ec) W hTC.ops hRC.big hWx (letter 97 (dy % 6)) 0 true [])
    have e2 : wC.cell? ⟨eb, 2, none⟩ = some (.slice ea W.length ec) := by rw [hTC.blk.cell]; rfl
    have e6 : wC.cell? ⟨xb, 6, none⟩ = some (.string ⟨List.toArray []⟩) := by rw [hXC.cell]; rfl
    have hxbl : ∀ x, (Value.slice ea W.length ec).ownBlock = some x → B ≤ x ∧ x < wr.heap.size := fun x hx => HRun.out.hot.lt 4 x (by rw [HTx.out.l4, hx])
    have hebl : B ≤ eb ∧ eb < wr.heap.size := HRun.out.hot.lt 3 eb HTx.out.l3
    have HEbl := Lib.hid (show (B ≤ eb ∧ eb < wr.heap.size) ∧ wr.heap.size ≤ xb from ⟨hebl, hxl⟩)
    have HXbl := Lib.hid hxbl
    have HOk := Lib.hid (show ∀ r ∈ setR W (⟨(letter 97 (dy % 6)), 0, true, []⟩ : Rec), r.ok from fun r hr => by
      rcases setR_mem W _ r hr with rfl | hr
      · exact ⟨hmaxl, by show List.length [] ≤ maxLen; exact Nat.zero_le _, by show (0 : Nat) < 18446744073709551616; omega⟩
      · exact HTx.out.ok r hr)
    clear hRC hTC hXC hbwB hbwC hMC hmC hebl hxbl hBl
    go_upto_region 21 with fail
    clear hrunM
    go_wp2_with fail
    refine HLa.out.mono ?_
    rintro e w7 ⟨v', rfl, hown, hmL, hblk⟩
    obtain ⟨a', c', rfl, hT8, hR8, e3, fz⟩ := HTC.out.wrote HRC.out hown hmL hblk HOk.out
    have hm8 : Mod [eb] w7 (w7.setCell ⟨eb, 2, none⟩ (.slice a' (setR W (⟨(letter 97 (dy % 6)), 0, true, []⟩ : Rec)).length c')) := (Mod.refl _ _).setCell _ _ (.inl (by simp))
    have hX8 := (HXC.out.mod hmL (fun hx => by have := HXbl.out xb (by simpa using hx); have := HEbl.out; omega)).mod hm8 (by have := HEbl.out; simp; omega)
    have hb7 : Below B w w7 := HBC.out.trans (hmL.below (fun x hx => (HXbl.out x (by simpa using hx)).1) HRC.out.big)
    have HDone := Lib.hid (show CallDone B w (w7.setCell ⟨eb, 2, none⟩ (.slice a' (setR W (⟨(letter 97 (dy % 6)), 0, true, []⟩ : Rec)).length c')) xb B (.slice a4 ln c4) u5 C (X0 ++ gs) Z0 M W eb (10 + i) ((k : Int) + 1) (letter 97 (dy % 6)) from
      ⟨(⟨10 + i, (k : Int) + 1, 4, 10 + i, (letter 97 (dy % 6)), [], [], true, 10 + i, (k : Int) + 1, 0, false, [], none, 0, 0, ln, ln⟩, []), _, a', c', hX8, ⟨rfl, World.ownsRow_nil _ _ _ _, by show 10 + i < 18446744073709551616; omega, hmaxl, ⟨by show (0 : Int) ≤ 4; omega, by show (4 : Int) ≤ 10; omega⟩, by show 0 ≤ 1000; omega, Nat.zero_le _⟩,
        hR8, hT8, rfl, rfl, rfl, rfl, rfl, rfl, (fun x hx => by cases hx), hb7.trans (hm8.below (fun x hx => by simp at hx; have := HEbl.out; omega) (Nat.le_trans HRC.out.big hmL.size))⟩)
    clear hown hmL hblk hT8 hR8 hm8 hX8 hb7
    go_wp2_with fail
    exact HK.out _ _ _ _ _ _ _ _ _ _ _ _ _ _ _ _ _ _ _ _ _ _ _ _ _ _ _ _ _ _ _ _ _ _ _ _ _ _ _ _ _ _ _ _ _ _ _ _ _ _ _ _ _ _ _ _ _ _ _ _ _ _ _ _ _ _ _ _ _ _ _ _ _ _ _ _ _ _ _ _ _ _ _ _ _ _ _ _ _ _ _ _ _ _ _ _ HDone.out
end Go.Proofs.Ytffianjbljgnaaa
