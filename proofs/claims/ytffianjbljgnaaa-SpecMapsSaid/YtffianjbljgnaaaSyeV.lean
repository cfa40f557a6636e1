/-
  Texts folded into one: SyeU, SyeV.
-/
import Derived.Test.YtffianjbljgnaaaSyeD
import Derived.Deep.DeepCutAuto
import Derived.Deep.CutBlock

/-! ### SyeU -/
namespace Go.Proofs.Ytffianjbljgnaaa
set_option linter.unusedVariables false
set_option linter.unusedSimpArgs false
open Go.RowKit
/-- Parts of a text. -/
def hdC_E : Code → Code
  | .seq a _ => a
  | c => c
def tlC_E : Code → Code
  | .seq _ b => b
  | c => c
theorem CmpOk_E.sub {g : Nat} {W0 : World} {CB : Nat} {key : Ent → Int} {U V : List Ent} (h : CmpOk_E g W0 CB key U) (hs : ∀ x ∈ V, x ∈ U) : CmpOk_E g W0 CB key V := ⟨fun w' hm x y hx hy => h.cmp w' hm x y (hs x hx) (hs y hy)⟩
set_option maxRecDepth 100000 in
set_option maxHeartbeats 16000000 in
theorem sym_tail2_E (K : Nat) (ih : SymGoal_E K) (g : Nat) (d : Array Ent) (rest : List Value) (cap a m b : Nat) (P A B Q : List Ent) (CB : Nat) (key : Ent → Int) (w0 w : World) (hd : d.toList = P ++ (A ++ (B ++ Q))) (ha : a = P.length) (hm : m = P.length + A.length) (hb : b = P.length + A.length + B.length) (hA0 : 0 < A.length) (hB0 : 0 < B.length) (hA : SortedK key A) (hB : SortedK key B)
    (hcap : d.size ≤ cap) (hsz : d.size ≤ 1000000) (hC : CmpOk_E g w0 CB key d.toList) (h : ArrE w g d rest) (hM : Mod [g] w0 w) (hK : b - a ≤ K + 1)
    (mid nn s e : Nat) (hmid : a < mid ∧ mid < b) (hnn : nn = mid + m) (hes : e + s = nn) (hs1 : a ≤ s) (hs2 : s ≤ m) (hs3 : m ≤ e) (hs4 : e ≤ b)
    (c1 : s = a ∨ e = b ∨ key d[s - 1]! ≤ key d[e]!) (c2 : s = m ∨ e = m ∨ key d[e - 1]! < key d[s]!)
    {y5 y6 y7 y8 y9 y10 y11 y12 y13 y14 y15 y16 y17 y21 y22 y23 y24 y25 y26 y27 y28 y29 y30 y31 y32 y33 y34 y35 y36 y37 y38 y39 y40 y41 y42 y43 y44 y45 y46 y47 y48 y49 y50 y51 y52 y53 y54 y55 y56 y57 y58 y59 y60 y61 y62 y63 y64 y65 y66 y67 y68 y69 y70 y71 y72 y73 y74 y75 y76 y77 y78 y79 y80 y81 y82 y83 y84 y85 y86 y87 y88 y89 y90 y91 y92 y93 y94 y95 y96 y97 y98 y99 y100 y101 y102 y103 y104 y105 y106 y107 y108 y109 y110 y111 y112 y113 y114 y115 y116 y117 y118 y119 y120 y121 y122 y123 y124 y125 y126 y127 y128 y129 y130 y131 y132 y133 y134 y135 y136 y137 y138 y139 y140 y141 y142 y143 y144 y145 y146 y147 y148 y149 y150 y151 y152 y153 y154 y155 y156 y157 y158 y159 y160 y161 y162 y163 y164 y165 y166 y167 y168 y169 y170 y171 y172 y173 y174 y175 y176 y177 y178 y179 y180 y181 y182 y183 y184 y185 y186 y187 y188 y189 y190 y191 y192 y193 y194 y195 y196 y197 y198 y199 y200 y201 y202 y203 y204 y205 y206 y207 y208 y209 y210 y211 y212 y213 y214 y215 y216 y217 y218 y219 : Value} :
    (tlC_E (tlC_E (tlC_E (tlC_E (tlC_E (tlC_E (tlC_E (tlC_E (Try.f75.body.getD .skip))))))))).wp Try.prog (bodyPost Try.prog Try.f75 (SymEnd_E g d.size key P (A ++ B) Q rest w0)) ⟨List.toArray (.slice (some ⟨g, 0, none⟩) d.size cap :: .int .i64 a :: .int .i64 m :: .int .i64 b :: .func (.func 55) #[] #[] :: y5 :: y6 :: y7 :: y8 :: y9 :: y10 :: y11 :: y12 :: y13 :: y14 :: y15 :: y16 :: y17 :: .int .i64 mid :: .int .i64 nn :: .int .i64 s :: y21 :: y22 :: y23 :: y24 :: y25 :: y26 :: y27 :: y28 :: y29 :: y30 :: y31 :: y32 :: y33 :: y34 :: y35 :: y36 :: y37 :: y38 :: y39 :: y40 :: y41 :: y42 :: y43 :: y44 :: y45 :: y46 :: y47 :: y48 :: y49 :: y50 :: y51 :: y52 :: y53 :: y54 :: y55 :: y56 :: y57 :: y58 :: y59 :: y60 :: y61 :: y62 :: y63 :: y64 :: y65 :: y66 :: y67 :: y68 :: y69 :: y70 :: y71 :: y72 :: y73 :: y74 :: y75 :: y76 :: y77 :: y78 :: y79 :: y80 :: y81 :: y82 :: y83 :: y84 :: y85 :: y86 :: y87 :: y88 :: y89 :: y90 :: y91 :: y92 :: y93 :: y94 :: y95 :: y96 :: y97 :: y98 :: y99 :: y100 :: y101 :: y102 :: y103 :: y104 :: y105 :: y106 :: y107 :: y108 :: y109 :: y110 :: y111 :: y112 :: y113 :: y114 :: y115 :: y116 :: y117 :: y118 :: y119 :: y120 :: y121 :: y122 :: y123 :: y124 :: y125 :: y126 :: y127 :: y128 :: y129 :: y130 :: y131 :: y132 :: y133 :: y134 :: y135 :: y136 :: y137 :: y138 :: y139 :: y140 :: y141 :: y142 :: y143 :: y144 :: y145 :: y146 :: y147 :: y148 :: y149 :: y150 :: y151 :: y152 :: y153 :: y154 :: y155 :: y156 :: y157 :: y158 :: y159 :: y160 :: y161 :: y162 :: y163 :: y164 :: y165 :: y166 :: y167 :: y168 :: y169 :: y170 :: y171 :: y172 :: y173 :: y174 :: y175 :: y176 :: y177 :: y178 :: y179 :: y180 :: y181 :: y182 :: y183 :: y184 :: y185 :: y186 :: y187 :: y188 :: y189 :: y190 :: y191 :: y192 :: y193 :: y194 :: y195 :: y196 :: y197 :: y198 :: y199 :: y200 :: y201 :: y202 :: y203 :: y204 :: y205 :: y206 :: y207 :: y208 :: y209 :: y210 :: y211 :: y212 :: y213 :: y214 :: y215 :: y216 :: y217 :: y218 :: y219 :: []), []⟩ w := by
  have e1 : (tlC_E (tlC_E (tlC_E (tlC_E (tlC_E (tlC_E (tlC_E (tlC_E (Try.f75.body.getD .skip))))))))) = (tlC_E (tlC_E (tlC_E (tlC_E (tlC_E (tlC_E (tlC_E (tlC_E (Try.f75.body.getD .skip))))))))) := rfl
  conv at e1 => rhs; unfold Try.f75; dsimp only [tlC_E, hdC_E, Option.getD]
  rw [e1]
  clear e1
  obtain ⟨A1, A2, B1, B2, rfl, rfl, l1, l2, p1, p2⟩ := sym_split hd ha hm hb hA hB hs1 hs2 hs3 hs4 c1 c2
  obtain ⟨N, hN⟩ : ∃ N, d.size = N := ⟨_, rfl⟩
  have hNl : N = P.length + (A1.length + (A2.length + (B1.length + (B2.length + Q.length)))) := by rw [← hN, ← Array.length_toList, hd]; simp <;> omega
  rw [List.length_append] at hm hb hA0
  rw [List.length_append] at hb hB0
  have hLen1 : s = P.length + A1.length := by omega
  have hLen2 : m = P.length + A1.length + A2.length := by omega
  have hLen3 : e = P.length + A1.length + A2.length + B1.length := by omega
  have hLen4 : b = P.length + A1.length + A2.length + B1.length + B2.length := by omega
  have hLen5 : mid = P.length + A1.length + B1.length := by omega
  have HJoin := Lib.hid (show ∀ M1 M2, SortedK key M1 → SameK key (A1 ++ B1) M1 → SortedK key M2 → SameK key (A2 ++ B2) M2 → SortedK key (M1 ++ M2) ∧ SameK key ((A1 ++ A2) ++ (B1 ++ B2)) (M1 ++ M2) from fun M1 M2 s1 e1 s2 e2 => sym_join hA hB p1 p2 s1 e1 s2 e2)
  have HS1 := Lib.hid (show SortedK key A1 ∧ SortedK key A2 ∧ SortedK key B1 ∧ SortedK key B2 from ⟨sorted_left hA, sorted_right hA, sorted_left hB, sorted_right hB⟩)
  have HC := Lib.hid hC
  have HA := Lib.hid h
  have HM := Lib.hid hM
  have HIH := Lib.hid ih
  have HD := Lib.hid (show d.toList = (P ++ A1) ++ (A2 ++ (B1 ++ (B2 ++ Q))) by rw [hd]; simp)
  have HN := Lib.hid hN
  have HL := Lib.hid (show s = P.length + A1.length ∧ m = P.length + A1.length + A2.length ∧ e = P.length + A1.length + A2.length + B1.length ∧ b = P.length + A1.length + A2.length + B1.length + B2.length ∧ mid = P.length + A1.length + B1.length ∧ a = P.length from ⟨hLen1, hLen2, hLen3, hLen4, hLen5, ha⟩)
  have hei : (nn : Int) - (s : Int) = (e : Int) := by omega
  have hwe : IntKind.i64.wrap (e : Int) = (e : Int) := IntWalk.i64_in _ (by omega)
  rw [hN] at hcap hsz ⊢
  obtain ⟨AB, hAB⟩ : ∃ X, (A1 ++ A2) ++ (B1 ++ B2) = X := ⟨_, rfl⟩
  rw [hAB] at HJoin ⊢
  clear hAB
  let hBP : Exit → Act → World → Prop := bodyPost Try.prog Try.f75 (fun _ _ => True)
  clear hC h hM ih hd hA hB hN hNl hm hb ha hLen1 hLen2 hLen3 hLen4 hLen5 l1 l2 p1 p2 c1 c2 hnn hes hA0 hB0
  go_upto_region 39 with fail
  go_cut [185] (fun t wx => t = .bool (decide (s < m) && decide (m < e)) ∧ w = wx)
  case first =>
    by_cases q1 : s < m
    · have q1i : (s : Int) < (m : Int) := by omega
      by_cases q2 : m < e
      · have q2i : (m : Int) < (e : Int) := by omega
        go_wp2_with fail
        go_meet
        exact ⟨by simp [q1, q2], rfl⟩
      · have q2i : ¬ (m : Int) < (e : Int) := by omega
        go_wp2_with fail
        go_meet
        exact ⟨by simp [q1, q2], rfl⟩
    · have q1i : ¬ (s : Int) < (m : Int) := by omega
      go_wp2_with fail
      go_meet
      exact ⟨by simp [q1], rfl⟩
  obtain ⟨rfl, rfl⟩ := hcut
  go_upto_if 185 with fail
  go_cut [] (fun wx => ∃ d2 : Array Ent, d2.toList = P ++ (A1 ++ (B1 ++ (A2 ++ (B2 ++ Q)))) ∧ d2.size = N ∧ ArrE wx g d2 rest ∧ Mod [g] w0 wx)
  case first =>
    by_cases q : s < m ∧ m < e
    · have qb : (decide (s < m) && decide (m < e)) = true := by simp [q.1, q.2]
      rw [qb]
      have HR := Lib.hid (rotate_any_E g d rest cap s m e (P ++ A1) A2 B1 (B2 ++ Q) HD.out (by rw [List.length_append]; have := HL.out; omega) (by rw [List.length_append]; have := HL.out; omega) (by rw [List.length_append]; have := HL.out; omega) (by have := HL.out; omega) (by have := HL.out; omega) (.func (.func 55) #[] #[]) (by rw [HN.out]; exact hcap) (by rw [HN.out]; exact hsz) w HA.out)
      rw [HN.out] at HR
      clear qb q
      go_wp2_with fail
      refine HR.out.mono ?_
      rintro e2 w2 ⟨rfl, d2, r1, r2, r3, r4⟩
      have HE := Lib.hid (show ∃ d2 : Array Ent, d2.toList = P ++ (A1 ++ (B1 ++ (A2 ++ (B2 ++ Q)))) ∧ d2.size = N ∧ ArrE w2 g d2 rest ∧ Mod [g] w0 w2 from ⟨d2, by rw [r1]; simp, r2, r3, HM.out.trans r4⟩)
      clear r1 r2 r3 r4 HR
      go_wp2_with fail
      go_meet
      exact HE.out
    · have qb : (decide (s < m) && decide (m < e)) = false := by
        by_cases q1 : s < m
        · rw [decide_eq_true q1, decide_eq_false (fun q2 => q ⟨q1, q2⟩)]; rfl
        · rw [decide_eq_false q1]; rfl
      rw [qb]
      have HE := Lib.hid (show ∃ d2 : Array Ent, d2.toList = P ++ (A1 ++ (B1 ++ (A2 ++ (B2 ++ Q)))) ∧ d2.size = N ∧ ArrE w g d2 rest ∧ Mod [g] w0 w from ⟨d, by
        have hl := HL.out
        rw [HD.out]
        by_cases q1 : s < m
        · have q2 : B1 = [] := List.length_eq_zero_iff.1 (by have : ¬ m < e := fun q2 => q ⟨q1, q2⟩; omega)
          rw [q2]; simp
        · have q2 : A2 = [] := List.length_eq_zero_iff.1 (by omega)
          rw [q2]; simp, HN.out, HA.out, HM.out⟩)
      clear qb q
      go_wp2_with fail
      go_meet
      exact HE.out
  rename World => w2
  obtain ⟨d2, r1, r2, r3, r4⟩ := hcut
  have HC2 := Lib.hid ((HC.out.on r4).sub (V := d2.toList) (fun x hx => by
    rw [r1] at hx
    rw [HD.out]
    simp only [List.mem_append] at hx ⊢
    rcases hx with h | h | h | h | h | h <;> simp [h]))
  have HD2 := Lib.hid r1
  have HA2 := Lib.hid r3
  have HM2 := Lib.hid r4
  have HN2 := Lib.hid r2
  clear r1 r2 r3 r4 HA HM HC HD HN
  go_upto_region 41 with fail
  go_cut [199] (fun t wx => t = .bool (decide (a < s) && decide (s < mid)) ∧ w2 = wx)
  case first =>
    by_cases q1 : a < s
    · have q1i : (a : Int) < (s : Int) := by omega
      by_cases q2 : s < mid
      · have q2i : (s : Int) < (mid : Int) := by omega
        go_wp2_with fail
        go_meet
        exact ⟨by simp [q1, q2], rfl⟩
      · have q2i : ¬ (s : Int) < (mid : Int) := by omega
        go_wp2_with fail
        go_meet
        exact ⟨by simp [q1, q2], rfl⟩
    · have q1i : ¬ (a : Int) < (s : Int) := by omega
      go_wp2_with fail
      go_meet
      exact ⟨by simp [q1], rfl⟩
  obtain ⟨rfl, rfl⟩ := hcut
  go_upto_if 199 with fail
  go_cut [] (fun wx => ∃ (M1 : List Ent) (d3 : Array Ent), SortedK key M1 ∧ SameK key (A1 ++ B1) M1 ∧ d3.toList = (P ++ M1) ++ (A2 ++ (B2 ++ Q)) ∧ d3.size = N ∧ ArrE wx g d3 rest ∧ Mod [g] w2 wx)
  case first =>
    by_cases q : a < s ∧ s < mid
    · have qb : (decide (a < s) && decide (s < mid)) = true := by simp [q.1, q.2]
      rw [qb]
      have HR := Lib.hid (HIH.out g d2 rest cap a s mid P A1 B1 (A2 ++ (B2 ++ Q)) CB key w2 (by omega) HD2.out (by have := HL.out; omega) (by have := HL.out; omega) (by have := HL.out; omega) (by have := HL.out; omega) (by have := HL.out; omega) HS1.out.1 HS1.out.2.2.1 (by rw [HN2.out]; exact hcap) (by rw [HN2.out]; exact hsz) HC2.out HA2.out)
      rw [HN2.out] at HR
      clear qb q
      go_wp2_with fail
      refine HR.out.mono ?_
      rintro e2 w3 ⟨rfl, M1, d3, r1, r2, r3, r4, r5, r6⟩
      have HE := Lib.hid (show ∃ (M1 : List Ent) (d3 : Array Ent), SortedK key M1 ∧ SameK key (A1 ++ B1) M1 ∧ d3.toList = (P ++ M1) ++ (A2 ++ (B2 ++ Q)) ∧ d3.size = N ∧ ArrE w3 g d3 rest ∧ Mod [g] w2 w3 from ⟨M1, d3, r1, r2, by rw [r3]; simp, r4, r5, r6⟩)
      clear r1 r2 r3 r4 r5 r6 HR
      go_wp2_with fail
      go_meet
      exact HE.out
    · have qb : (decide (a < s) && decide (s < mid)) = false := by
        by_cases q1 : a < s
        · rw [decide_eq_true q1, decide_eq_false (fun q2 => q ⟨q1, q2⟩)]; rfl
        · rw [decide_eq_false q1]; rfl
      rw [qb]
      have HE := Lib.hid (show ∃ (M1 : List Ent) (d3 : Array Ent), SortedK key M1 ∧ SameK key (A1 ++ B1) M1 ∧ d3.toList = (P ++ M1) ++ (A2 ++ (B2 ++ Q)) ∧ d3.size = N ∧ ArrE w2 g d3 rest ∧ Mod [g] w2 w2 from ⟨A1 ++ B1, d2, by
        have hl := HL.out
        by_cases q1 : a < s
        · have q2 : B1 = [] := List.length_eq_zero_iff.1 (by have : ¬ s < mid := fun q2 => q ⟨q1, q2⟩; omega)
          rw [q2, List.append_nil]; exact HS1.out.1
        · have q2 : A1 = [] := List.length_eq_zero_iff.1 (by omega)
          rw [q2, List.nil_append]; exact HS1.out.2.2.1, SameK.refl _, by rw [HD2.out]; simp, HN2.out, HA2.out, Mod.refl _ _⟩)
      clear qb q
      go_wp2_with fail
      go_meet
      exact HE.out
  rename World => w3
  obtain ⟨M1, d3, s1, e1, r3, r4, r5, r6⟩ := hcut
  have hl1 : M1.length = A1.length + B1.length := by rw [← e1.perm.length_eq, List.length_append]
  have HC3 := Lib.hid ((HC2.out.on r6).sub (V := d3.toList) (fun x hx => by
    rw [r3] at hx
    rw [HD2.out]
    simp only [List.mem_append] at hx ⊢
    have h1 := e1.mem x
    simp only [List.mem_append] at h1
    rcases hx with (h | h) | h | h | h
    · simp [h]
    · rcases h1.2 h with h | h <;> simp [h]
    · simp [h]
    · simp [h]
    · simp [h]))
  have HL3 := Lib.hid (show (P ++ M1).length = mid by rw [List.length_append, hl1]; have := HL.out; omega)
  have HD3 := Lib.hid r3
  have HA3 := Lib.hid r5
  have HM3 := Lib.hid (HM2.out.trans r6)
  have HN3 := Lib.hid r4
  have HS := Lib.hid s1
  have HE1 := Lib.hid e1
  clear s1 e1 r3 r4 r5 r6 hl1 HA2 HM2 HC2 HD2 HN2
  by_cases q1 : mid < e
  · have q1i : (mid : Int) < (e : Int) := by omega
    by_cases q2 : e < b
    · have q2i : (e : Int) < (b : Int) := by omega
      have HR := Lib.hid (HIH.out g d3 rest cap mid e b (P ++ M1) A2 B2 Q CB key w3 (by omega) HD3.out HL3.out.symm (by rw [HL3.out]; have := HL.out; omega) (by rw [HL3.out]; have := HL.out; omega) (by have := HL.out; omega) (by have := HL.out; omega) HS1.out.2.1 HS1.out.2.2.2 (by rw [HN3.out]; exact hcap) (by rw [HN3.out]; exact hsz) HC3.out HA3.out)
      rw [HN3.out] at HR
      go_wp2_with fail
      refine HR.out.mono ?_
      rintro e2 w4 ⟨rfl, M2, d4, r1, r2, r3, r4, r5, r6⟩
      have hj := HJoin.out M1 M2 HS.out HE1.out r1 r2
      have HE := Lib.hid (show SymEnd_E g N key P AB Q rest w0 (.returned (.tuple #[])) w4 from ⟨rfl, M1 ++ M2, d4, hj.1, hj.2, by rw [r3]; simp, r4, r5, HM3.out.trans r6⟩)
      clear r1 r2 r3 r4 r5 r6 hj HR
      go_wp2_with fail
      go_end0
      exact HE.out
    · have q2i : ¬ (e : Int) < (b : Int) := by omega
      have q3 : B2 = [] := List.length_eq_zero_iff.1 (by have := HL.out; omega)
      have hj := HJoin.out M1 A2 HS.out HE1.out HS1.out.2.1 (by rw [q3, List.append_nil]; exact SameK.refl _)
      have HE := Lib.hid (show SymEnd_E g N key P AB Q rest w0 (.returned (.tuple #[])) w3 from ⟨rfl, M1 ++ A2, d3, hj.1, hj.2, by rw [HD3.out, q3]; simp, HN3.out, HA3.out, HM3.out⟩)
      clear hj q3
      go_wp2_with fail
      go_end0
      exact HE.out
  · have q1i : ¬ (mid : Int) < (e : Int) := by omega
    have q3 : A2 = [] := List.length_eq_zero_iff.1 (by have := HL.out; omega)
    have hj := HJoin.out M1 B2 HS.out HE1.out HS1.out.2.2.2 (by rw [q3, List.nil_append]; exact SameK.refl _)
    have HE := Lib.hid (show SymEnd_E g N key P AB Q rest w0 (.returned (.tuple #[])) w3 from ⟨rfl, M1 ++ B2, d3, hj.1, hj.2, by rw [HD3.out, q3]; simp, HN3.out, HA3.out, HM3.out⟩)
    clear hj q3
    go_wp2_with fail
    go_end0
    exact HE.out
end Go.Proofs.Ytffianjbljgnaaa

/-! ### SyeV -/
namespace Go.Proofs.Ytffianjbljgnaaa
set_option linter.unusedVariables false
set_option linter.unusedSimpArgs false
open Go.RowKit
set_option maxRecDepth 100000 in
set_option maxHeartbeats 16000000 in
theorem sym_tail1_E (K : Nat) (ih : SymGoal_E K) (g : Nat) (d : Array Ent) (rest : List Value) (cap a m b : Nat) (P A B Q : List Ent) (CB : Nat) (key : Ent → Int) (w0 w : World) (hd : d.toList = P ++ (A ++ (B ++ Q))) (ha : a = P.length) (hm : m = P.length + A.length) (hb : b = P.length + A.length + B.length) (hA0 : 0 < A.length) (hB0 : 0 < B.length) (hA : SortedK key A) (hB : SortedK key B)
    (hcap : d.size ≤ cap) (hsz : d.size ≤ 1000000) (hC : CmpOk_E g w0 CB key d.toList) (h : ArrE w g d rest) (hM : Mod [g] w0 w) (hK : b - a ≤ K + 1)
    (hone : 2 ≤ A.length) (htwo : 2 ≤ B.length) (mid : Nat) (hmid2 : a + b ≤ 2 * mid + 1 ∧ 2 * mid ≤ a + b)
    {y5 y6 y7 y8 y9 y10 y11 y12 y13 y14 y15 y16 y17 y19 y20 y21 y22 y23 y24 y25 y26 y27 y28 y29 y30 y31 y32 y33 y34 y35 y36 y37 y38 y39 y40 y41 y42 y43 y44 y45 y46 y47 y48 y49 y50 y51 y52 y53 y54 y55 y56 y57 y58 y59 y60 y61 y62 y63 y64 y65 y66 y67 y68 y69 y70 y71 y72 y73 y74 y75 y76 y77 y78 y79 y80 y81 y82 y83 y84 y85 y86 y87 y88 y89 y90 y91 y92 y93 y94 y95 y96 y97 y98 y99 y100 y101 y102 y103 y104 y105 y106 y107 y108 y109 y110 y111 y112 y113 y114 y115 y116 y117 y118 y119 y120 y121 y122 y123 y124 y125 y126 y127 y128 y129 y130 y131 y132 y133 y134 y135 y136 y137 y138 y139 y140 y141 y142 y143 y144 y145 y146 y147 y148 y149 y150 y151 y152 y153 y154 y155 y156 y157 y158 y159 y160 y161 y162 y163 y164 y165 y166 y167 y168 y169 y170 y171 y172 y173 y174 y175 y176 y177 y178 y179 y180 y181 y182 y183 y184 y185 y186 y187 y188 y189 y190 y191 y192 y193 y194 y195 y196 y197 y198 y199 y200 y201 y202 y203 y204 y205 y206 y207 y208 y209 y210 y211 y212 y213 y214 y215 y216 y217 y218 y219 : Value} :
    (tlC_E (tlC_E (tlC_E (Try.f75.body.getD .skip)))).wp Try.prog (bodyPost Try.prog Try.f75 (SymEnd_E g d.size key P (A ++ B) Q rest w0)) ⟨List.toArray (.slice (some ⟨g, 0, none⟩) d.size cap :: .int .i64 a :: .int .i64 m :: .int .i64 b :: .func (.func 55) #[] #[] :: y5 :: y6 :: y7 :: y8 :: y9 :: y10 :: y11 :: y12 :: y13 :: y14 :: y15 :: y16 :: y17 :: .int .i64 mid :: y19 :: y20 :: y21 :: y22 :: y23 :: y24 :: y25 :: y26 :: y27 :: y28 :: y29 :: y30 :: y31 :: y32 :: y33 :: y34 :: y35 :: y36 :: y37 :: y38 :: y39 :: y40 :: y41 :: y42 :: y43 :: y44 :: y45 :: y46 :: y47 :: y48 :: y49 :: y50 :: y51 :: y52 :: y53 :: y54 :: y55 :: y56 :: y57 :: y58 :: y59 :: y60 :: y61 :: y62 :: y63 :: y64 :: y65 :: y66 :: y67 :: y68 :: y69 :: y70 :: y71 :: y72 :: y73 :: y74 :: y75 :: y76 :: y77 :: y78 :: y79 :: y80 :: y81 :: y82 :: y83 :: y84 :: y85 :: y86 :: y87 :: y88 :: y89 :: y90 :: y91 :: y92 :: y93 :: y94 :: y95 :: y96 :: y97 :: y98 :: y99 :: y100 :: y101 :: y102 :: y103 :: y104 :: y105 :: y106 :: y107 :: y108 :: y109 :: y110 :: y111 :: y112 :: y113 :: y114 :: y115 :: y116 :: y117 :: y118 :: y119 :: y120 :: y121 :: y122 :: y123 :: y124 :: y125 :: y126 :: y127 :: y128 :: y129 :: y130 :: y131 :: y132 :: y133 :: y134 :: y135 :: y136 :: y137 :: y138 :: y139 :: y140 :: y141 :: y142 :: y143 :: y144 :: y145 :: y146 :: y147 :: y148 :: y149 :: y150 :: y151 :: y152 :: y153 :: y154 :: y155 :: y156 :: y157 :: y158 :: y159 :: y160 :: y161 :: y162 :: y163 :: y164 :: y165 :: y166 :: y167 :: y168 :: y169 :: y170 :: y171 :: y172 :: y173 :: y174 :: y175 :: y176 :: y177 :: y178 :: y179 :: y180 :: y181 :: y182 :: y183 :: y184 :: y185 :: y186 :: y187 :: y188 :: y189 :: y190 :: y191 :: y192 :: y193 :: y194 :: y195 :: y196 :: y197 :: y198 :: y199 :: y200 :: y201 :: y202 :: y203 :: y204 :: y205 :: y206 :: y207 :: y208 :: y209 :: y210 :: y211 :: y212 :: y213 :: y214 :: y215 :: y216 :: y217 :: y218 :: y219 :: []), []⟩ w := by
  have e1 : (tlC_E (tlC_E (tlC_E (Try.f75.body.getD .skip)))) = (tlC_E (tlC_E (tlC_E (Try.f75.body.getD .skip)))) := rfl
  conv at e1 => rhs; unfold Try.f75; dsimp only [tlC_E, hdC_E, Option.getD]
  rw [e1]
  clear e1
  obtain ⟨N, hN⟩ : ∃ N, d.size = N := ⟨_, rfl⟩
  have hNl : N = P.length + (A.length + (B.length + Q.length)) := by rw [← hN, ← Array.length_toList, hd]; simp
  have HC := Lib.hid (hC.on hM)
  have HA := Lib.hid h
  have HM := Lib.hid (Mod.refl [g] w)
  have HTail := Lib.hid (fun (wx : World) (hx : ArrE wx g d rest) (hmx : Mod [g] w wx) => @sym_tail2_E K ih g d rest cap a m b P A B Q CB key w0 wx hd ha hm hb hA0 hB0 hA hB hcap hsz hC hx (hM.trans hmx) hK)
  have HN := Lib.hid hN
  rw [hN] at hcap hsz ⊢
  rw [hN] at HTail
  have hmN : m < N := by omega
  have haN : a < N := by omega
  have hbN : b ≤ N := by omega
  have hab : a + 2 ≤ m ∧ m + 2 ≤ b := by omega
  have hdz : d.size ≤ N ∧ N ≤ d.size := by omega
  let hBP : Exit → Act → World → Prop := bodyPost Try.prog Try.f75 (fun _ _ => True)
  clear hC h hM ih hd hA hB ha hm hb hNl hN hA0 hB0 hone htwo
  obtain ⟨AB, hAB⟩ : ∃ X, A ++ B = X := ⟨_, rfl⟩
  rw [hAB] at HTail ⊢
  clear hAB
  obtain ⟨nn, hnne⟩ : ∃ s, mid + m = s := ⟨_, rfl⟩
  obtain ⟨p, hpe⟩ : ∃ s, nn - 1 = s := ⟨_, rfl⟩
  have hwmid : IntKind.i64.wrap (mid : Int) = (mid : Int) := IntWalk.i64_in _ (by omega)
  have hwumid : IntKind.u64.wrap (mid : Int) = (mid : Int) := IntWalk.u64_in _ (by omega)
  have hnni : (mid : Int) + (m : Int) = (nn : Int) := by omega
  have hwnn : IntKind.i64.wrap (nn : Int) = (nn : Int) := IntWalk.i64_in _ (by omega)
  have hpi : (nn : Int) - 1 = (p : Int) := by omega
  have hwp : IntKind.i64.wrap (p : Int) = (p : Int) := IntWalk.i64_in _ (by omega)
  have hmid1 : a < mid ∧ mid < b := by omega
  have hnn' : nn ≤ mid + m ∧ mid + m ≤ nn := by omega
  have hp' : p + 1 ≤ nn ∧ nn ≤ p + 1 := by omega
  obtain ⟨nb, hnbe⟩ : ∃ s, nn - b = s := ⟨_, rfl⟩
  obtain ⟨lo, hloe⟩ : ∃ s, (if mid < m then nb else a) = s := ⟨_, rfl⟩
  obtain ⟨hi, hhie⟩ : ∃ s, (if mid < m then mid else m) = s := ⟨_, rfl⟩
  have hlohi : (mid < m → lo + b ≤ nn ∧ nn ≤ lo + b ∧ lo ≤ nb ∧ nb ≤ lo ∧ hi ≤ mid ∧ mid ≤ hi) ∧ (¬ mid < m → lo ≤ a ∧ a ≤ lo ∧ hi ≤ m ∧ m ≤ hi) := by
    rw [← hloe, ← hhie, ← hnbe]
    constructor <;> intro h
    · rw [if_pos h, if_pos h]; omega
    · rw [if_neg h, if_neg h]; omega
  have hlo : a ≤ lo ∧ lo ≤ hi ∧ hi ≤ m ∧ hi ≤ mid := by
    by_cases h : mid < m
    · have := hlohi.1 h; omega
    · have := hlohi.2 h; omega
  have HLH := Lib.hid hlohi
  have HLO := Lib.hid hloe
  have HHI := Lib.hid hhie
  have HNB := Lib.hid hnbe
  clear hnne hpe hlohi hloe hhie hnbe
  go_upto_region 27 with fail
  go_cut [140] (fun s wx => s = .bool (decide (mid < m)) ∧ w = wx)
  case first =>
    by_cases hmd : mid < m
    · have hmdi : (mid : Int) < (m : Int) := by omega
      have hmdi' : (m : Int) > (mid : Int) := by omega
      go_wp2_with fail
      go_meet
      exact ⟨by simp [hmd], rfl⟩
    · have hmdi : ¬ (mid : Int) < (m : Int) := by omega
      have hmdi' : ¬ (m : Int) > (mid : Int) := by omega
      go_wp2_with fail
      go_meet
      exact ⟨by simp [hmd], rfl⟩
  obtain ⟨rfl, rfl⟩ := hcut
  go_upto_if 140 with fail
  go_cut [20, 21] (fun s t wx => s = .int .i64 lo ∧ t = .int .i64 hi ∧ w = wx)
  case first =>
    by_cases hmd : mid < m
    · have e1 : nb = lo := by rw [← HLO.out, if_pos hmd]
      have e2 : mid = hi := by rw [← HHI.out, if_pos hmd]
      have e3 : (nn : Int) - (b : Int) = (nb : Int) := by have := HLH.out.1 hmd; have := HNB.out; omega
      have e4 : IntKind.i64.wrap (nb : Int) = (nb : Int) := IntWalk.i64_in _ (by have := HLH.out.1 hmd; have := HNB.out; omega)
      have E1 := Lib.hid e1
      have E2 := Lib.hid e2
      have hmb : decide (mid < m) = true := decide_eq_true hmd
      clear e1 e2
      go_wp2_with fail
      go_meet
      exact ⟨by rw [← E1.out], by rw [← E2.out], rfl⟩
    · have e1 : a = lo := by rw [← HLO.out, if_neg hmd]
      have e2 : m = hi := by rw [← HHI.out, if_neg hmd]
      have E1 := Lib.hid e1
      have E2 := Lib.hid e2
      have hmb : decide (mid < m) = false := decide_eq_false hmd
      clear e1 e2
      go_wp2_with fail
      go_meet
      exact ⟨by rw [← E1.out], by rw [← E2.out], rfl⟩
  obtain ⟨rfl, rfl, rfl⟩ := hcut
  have HLb := Lib.hid (show ∀ h, lo ≤ h → h < hi → h ≤ p ∧ m ≤ p - h ∧ p - h < b from fun h h1 h2 => by
    by_cases hmd : mid < m
    · have := HLH.out.1 hmd; have := HNB.out; omega
    · have := HLH.out.2 hmd; omega)
  go_upto_block 8 with fail
  go_cut [20, 21] (fun s t wx => ∃ i : Nat, s = .int .i64 i ∧ lo ≤ i ∧ i ≤ hi ∧ (i = lo ∨ ¬ key d[p - (i - 1)]! < key d[(i - 1)]!) ∧ (i = hi ∨ ¬ ¬ key d[p - i]! < key d[i]!) ∧ Below w.heap.size w wx)
  case first =>
    go_wp2_with fail
    go_loopw [20, 21] (fun s t wr => ∃ i j : Nat, s = .int .i64 i ∧ t = .int .i64 j ∧ lo ≤ i ∧ i ≤ j ∧ j ≤ hi ∧ (i = lo ∨ ¬ key d[p - (i - 1)]! < key d[(i - 1)]!) ∧ (j = hi ∨ ¬ ¬ key d[p - j]! < key d[j]!) ∧ Below w.heap.size w wr) (fun s t _ => (intOf t).toNat - (intOf s).toNat)
    case atStart => exact ⟨lo, hi, rfl, rfl, Nat.le_refl _, by omega, Nat.le_refl _, .inl rfl, .inl rfl, Below.refl _ _⟩
    case round =>
      obtain ⟨i, j, rfl, rfl, hi1, hi2, hi3, c1, c2, hb'⟩ := hrel
      have C1 := Lib.hid c1
      have C2 := Lib.hid c2
      have HBk := Lib.hid hb'
      have HAk := Lib.hid (HA.out.on hb')
      clear c1 c2 hb'
      by_cases hlt : i < j
      · have hltI : (i : Int) < (j : Int) := by omega
        obtain ⟨s, hs⟩ : ∃ s, i + j = s := ⟨_, rfl⟩
        obtain ⟨h, hh⟩ : ∃ h, s / 2 = h := ⟨_, rfl⟩
        have hsI : (i : Int) + (j : Int) = (s : Int) := by omega
        have hws : IntKind.i64.wrap (s : Int) = (s : Int) := IntWalk.i64_in _ (by omega)
        have hwu : IntKind.u64.wrap (s : Int) = (s : Int) := IntWalk.u64_in _ (by omega)
        have hshr : (s : Int) / (2 : Int) = (h : Int) := by omega
        have hwh : IntKind.i64.wrap (h : Int) = (h : Int) := IntWalk.i64_in _ (by omega)
        have hwhu : IntKind.u64.wrap (h : Int) = (h : Int) := IntWalk.u64_in _ (by omega)
        have hhb : i ≤ h ∧ h < j := by omega
        clear hs hh
        have hhN : (h : Int) < (N : Int) := by omega
        have hhq := HLb.out h (by omega) (by omega)
        obtain ⟨q, hqe⟩ : ∃ q, p - h = q := ⟨_, rfl⟩
        have hqi : (p : Int) - (h : Int) = (q : Int) := by omega
        have hwq : IntKind.i64.wrap (q : Int) = (q : Int) := IntWalk.i64_in _ (by omega)
        have hqN : (q : Int) < (N : Int) := by omega
        have hqN' : q < N := by omega
        have HQ := Lib.hid hqe
        clear hqe
        go_upto_region 35 with fail
        obtain ⟨x, hx⟩ : ∃ x, d[q]! = x := ⟨_, rfl⟩
        obtain ⟨y, hy⟩ : ∃ y, d[h]! = y := ⟨_, rfl⟩
        have hxm : x ∈ d.toList := by rw [← hx]; exact mem_get_E (by omega)
        have hym : y ∈ d.toList := by rw [← hy]; exact mem_get_E (by omega)
        have HF := Lib.hid (show ∀ w', Below wr.heap.size wr w' → (EntAt w' g q x ∧ EntAt w' g h y) from
          fun w' hb => ⟨by rw [← hx]; exact (HAk.out.on hb).get (by omega), by rw [← hy]; exact (HAk.out.on hb).get (by omega)⟩)
        have HCC := Lib.hid (show ∀ w', Below wr.heap.size wr w' → Calls Try.prog 55 #[.agg #[.int .u64 (x.ts : Nat), .int .u64 (x.first : Nat), .slice x.a x.n x.c], .agg #[.int .u64 (y.ts : Nat), .int .u64 (y.first : Nat), .slice y.a y.n y.c]] w' fun e w'' => e = .returned (.int .i64 (cmpI (key x) (key y))) ∧ Below w'.heap.size w' w'' from
          fun w' hb => HC.out.cmp w' ((HM.out.thenBelow HBk.out).thenBelow hb) x y hxm hym)
        have hneg := cmpI_neg (key x) (key y)
        have HGo := Lib.hid (show ¬ key d[p - h]! < key d[h]! ↔ ¬ key x < key y from by rw [HQ.out, hx, hy])
        generalize cmpI (key x) (key y) = cval at *
        by_cases hc : key x < key y
        · have hcv : cval < 0 := hneg.2 hc
          have HG := Lib.hid (show ¬ ¬ key d[p - h]! < key d[h]! from fun hg => (HGo.out.1 hg hc))
          clear hc hneg hx hy hxm hym HGo
          refine wp_region_settleF (Below wr.heap.size wr) (by kernel_rfl) (by kernel_rfl) (by kernel_rfl) (below_drew (Below.refl _ _)) ?_
          repeat (first
            | (refine settled_not ?_ ?_
               · rfl
               simp only [Act.put, List.setIfInBounds_toArray, List.set_cons_zero, List.set_cons_succ])
            | (refine settled_val (v := ?_) ?_ (fun w' hS => ?_) ?_
               rotate_left
               · rfl
               · obtain ⟨⟨k0, k0b, k0c⟩, ⟨k1, k1b, k1c⟩⟩ := HF.out w' hS
                 go_simp
                 with_reducible rfl
               simp only [Act.put, List.setIfInBounds_toArray, List.set_cons_zero, List.set_cons_succ])
            | (refine settled_call (f := 55) (v := .int .i64 cval) ?_ (fun w' hS => ?_) (fun w' hS => ((HCC.out w' hS).mono fun e w'' ⟨h1, h2⟩ => ⟨h1, hS.on h2⟩)) ?_
               · rfl
               · go_simp
               simp only [Act.put, List.setIfInBounds_toArray, List.set_cons_zero, List.set_cons_succ]))
          refine settled_nil (fun w2 hS => ?_)
          have HB2 := Lib.hid (HBk.out.trans (hS.mono HBk.out.size))
          clear hS HF HCC
          go_wp2_with fail
          go_roundw
          case rel => exact ⟨i, h, rfl, rfl, by omega, by omega, by omega, C1.out, .inr HG.out, HB2.out⟩
          case measure => simp [intOf]; omega
        · have hcv : ¬ cval < 0 := fun h => hc (hneg.1 h)
          have HG := Lib.hid (show ¬ key d[p - h]! < key d[h]! from HGo.out.2 hc)
          clear hc hneg hx hy hxm hym HGo
          refine wp_region_settleF (Below wr.heap.size wr) (by kernel_rfl) (by kernel_rfl) (by kernel_rfl) (below_drew (Below.refl _ _)) ?_
          repeat (first
            | (refine settled_not ?_ ?_
               · rfl
               simp only [Act.put, List.setIfInBounds_toArray, List.set_cons_zero, List.set_cons_succ])
            | (refine settled_val (v := ?_) ?_ (fun w' hS => ?_) ?_
               rotate_left
               · rfl
               · obtain ⟨⟨k0, k0b, k0c⟩, ⟨k1, k1b, k1c⟩⟩ := HF.out w' hS
                 go_simp
                 with_reducible rfl
               simp only [Act.put, List.setIfInBounds_toArray, List.set_cons_zero, List.set_cons_succ])
            | (refine settled_call (f := 55) (v := .int .i64 cval) ?_ (fun w' hS => ?_) (fun w' hS => ((HCC.out w' hS).mono fun e w'' ⟨h1, h2⟩ => ⟨h1, hS.on h2⟩)) ?_
               · rfl
               · go_simp
               simp only [Act.put, List.setIfInBounds_toArray, List.set_cons_zero, List.set_cons_succ]))
          refine settled_nil (fun w2 hS => ?_)
          have HB2 := Lib.hid (HBk.out.trans (hS.mono HBk.out.size))
          clear hS HF HCC
          go_wp2_with fail
          go_roundw
          case rel => exact ⟨h + 1, j, by go_num, rfl, by omega, by omega, by omega, .inr (by rw [Nat.add_sub_cancel]; exact HG.out), C2.out, HB2.out⟩
          case measure => simp [intOf]; omega
      · have hge : ¬ (i : Int) < (j : Int) := by omega
        have hij : i = j := by omega
        subst hij
        go_wp2_with fail
        go_meet
        exact ⟨i, rfl, hi1, hi3, C1.out, C2.out, HBk.out⟩
  rename World => w3
  obtain ⟨s, rfl, hi1, hi3, c1, c2, hb3⟩ := hcut
  have hse : s ≤ nn ∧ m ≤ nn - s ∧ nn - s ≤ b := by
    by_cases hmd : mid < m
    · have := HLH.out.1 hmd; omega
    · have := HLH.out.2 hmd; omega
  have hq1 : s = a ∨ nn - s = b ∨ key d[s - 1]! ≤ key d[nn - s]! := by
    rcases c1 with c1 | c1
    · by_cases hmd : mid < m
      · right; left; have := HLH.out.1 hmd; omega
      · left; have := HLH.out.2 hmd; omega
    · by_cases hsl : s = lo
      · by_cases hmd : mid < m
        · right; left; have := HLH.out.1 hmd; omega
        · left; have := HLH.out.2 hmd; omega
      · right; right
        rw [show p - (s - 1) = nn - s by omega] at c1
        exact Int.not_lt.1 c1
  have hq2 : s = m ∨ nn - s = m ∨ key d[nn - s - 1]! < key d[s]! := by
    rcases c2 with c2 | c2
    · by_cases hmd : mid < m
      · right; left; have := HLH.out.1 hmd; omega
      · left; have := HLH.out.2 hmd; omega
    · right; right
      have c3 := Decidable.not_not.1 c2
      rw [show p - s = nn - s - 1 by omega] at c3
      exact c3
  have HT1 := Lib.hid (show ArrE w3 g d rest ∧ Mod [g] w w3 from ⟨HA.out.on hb3, HM.out.thenBelow hb3⟩)
  have HT2 := Lib.hid (show (nn = mid + m ∧ (nn - s) + s = nn ∧ a ≤ s ∧ s ≤ m) ∧ (m ≤ nn - s ∧ nn - s ≤ b) from ⟨⟨by omega, by omega, by omega, by omega⟩, hse.2⟩)
  have HT3 := Lib.hid hq1
  have HT4 := Lib.hid hq2
  clear hq1 hq2 c1 c2 hb3 hse
  first
    | (rename_i hK0; exact hK0 _ _ (HTail.out w3 HT1.out.1 HT1.out.2 mid nn s (nn - s) hmid1 HT2.out.1.1 HT2.out.1.2.1 HT2.out.1.2.2.1 HT2.out.1.2.2.2 HT2.out.2.1 HT2.out.2.2 HT3.out HT4.out))
    | (rename_i hK0 _; exact hK0 _ _ (HTail.out w3 HT1.out.1 HT1.out.2 mid nn s (nn - s) hmid1 HT2.out.1.1 HT2.out.1.2.1 HT2.out.1.2.2.1 HT2.out.1.2.2.2 HT2.out.2.1 HT2.out.2.2 HT3.out HT4.out))
    | (rename_i hK0 _ _; exact hK0 _ _ (HTail.out w3 HT1.out.1 HT1.out.2 mid nn s (nn - s) hmid1 HT2.out.1.1 HT2.out.1.2.1 HT2.out.1.2.2.1 HT2.out.1.2.2.2 HT2.out.2.1 HT2.out.2.2 HT3.out HT4.out))
    | (rename_i hK0 _ _ _; exact hK0 _ _ (HTail.out w3 HT1.out.1 HT1.out.2 mid nn s (nn - s) hmid1 HT2.out.1.1 HT2.out.1.2.1 HT2.out.1.2.2.1 HT2.out.1.2.2.2 HT2.out.2.1 HT2.out.2.2 HT3.out HT4.out))
    | (rename_i hK0 _ _ _ _; exact hK0 _ _ (HTail.out w3 HT1.out.1 HT1.out.2 mid nn s (nn - s) hmid1 HT2.out.1.1 HT2.out.1.2.1 HT2.out.1.2.2.1 HT2.out.1.2.2.2 HT2.out.2.1 HT2.out.2.2 HT3.out HT4.out))
    | (rename_i hK0 _ _ _ _ _; exact hK0 _ _ (HTail.out w3 HT1.out.1 HT1.out.2 mid nn s (nn - s) hmid1 HT2.out.1.1 HT2.out.1.2.1 HT2.out.1.2.2.1 HT2.out.1.2.2.2 HT2.out.2.1 HT2.out.2.2 HT3.out HT4.out))
end Go.Proofs.Ytffianjbljgnaaa
