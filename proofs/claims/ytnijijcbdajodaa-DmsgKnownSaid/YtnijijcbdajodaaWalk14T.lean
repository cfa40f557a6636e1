/-
  The walk of DmsgKnown behind its first loop. No condition.
-/
import Derived.Test.YtnijijcbdajodaaWalk14O
import Derived.Test.YtnijijcbdajodaaMany14
namespace Go.Proofs.Ytnijijcbdajodaa
set_option linter.unusedVariables false
set_option linter.unusedSimpArgs false
open Go.RowKit

theorem seq_val2 {P : Program} {ops : Array Oper} {Q : Exit → Act → World → Prop} {o : Oper} {rest : List Oper} {a : Act} {w w' : World} (v u : Value) (hw : Region.wanted o (yielded ops a.tmps) = true) (hv : (execOp a.eval o).run P w = .ok (.value v) w') (e : v = u) (h : wpSeq P ops Q rest (a.put o.dst u) w') : wpSeq P ops Q (o :: rest) a w := by
  subst e; exact seq_val v hw hv h
theorem Mod.fresh14 {N : Nat} {a b c : World} (k : Mod [N] b c) (h : Below a.heap.size a b) (hg : a.heap.size ≤ N) : Below a.heap.size a c := Mod.fresh h k (fun x hx => by rw [List.mem_singleton.1 hx]; exact hg)
theorem of_world_eq {X Y w : World} {g n : Nat} {ms : List Msg} (h : X = Y) (k : MsgsAt Y g ms ∧ Below n w Y) : MsgsAt X g ms ∧ Below n w X := h ▸ k

/-- A first part, and what stands behind it. -/
def hd14 : Code → Code
  | .seq a _ => a
  | c => c
def tl14 : Code → Code
  | .seq _ b => b
  | c => c

set_option maxRecDepth 100000 in
set_option maxHeartbeats 8000000 in
theorem tail_any (w wb : World) (hbw2 : Below w.heap.size w wb) (u0 u1 u2 u3 u4 u5 u6 u7 u8 u9 u10 u11 u12 u13 u14 u15 u16 u17 u18 u19 u20 u21 u22 u23 u24 u25 u26 u27 u28 u29 u30 u31 u32 u33 u34 u35 u36 u37 u38 u39 u40 u41 u42 u43 u44 u45 u46 u47 u48 u49 u50 u51 u52 u53 u54 u55 u56 u57 u58 u59 u60 u61 u62 u63 u64 u65 u66 u67 u68 u69 u70 u71 u72 u73 u74 u75 u76 u77 u78 u79 u80 u81 u82 u83 u84 u85 u86 u87 u88 u89 u90 u91 u92 u93 u94 u95 u96 u97 u98 u99 u100 u101 u102 u103 u104 u105 u106 u107 u108 u109 u110 u111 u112 u113 u114 u115 u116 u117 u118 u119 u120 u121 u122 u123 u124 u125 u126 u127 u128 u129 u130 u131 u132 u133 u134 u135 u136 u137 u138 u139 u140 u141 u142 u143 u144 u145 u146 u147 u148 u149 u150 u151 u152 u153 u154 u155 u156 u157 u158 u159 u160 u161 u162 u163 u164 u165 u166 u167 u168 u169 u170 u171 u172 u173 u174 u175 u176 u177 u178 u179 u180 u181 u182 u183 u184 u185 u186 u187 u188 u189 u190 u191 u192 u193 u194 u195 u196 u197 u198 u199 u200 u201 u202 u203 u204 u205 u206 u207 u208 u209 u210 u211 u212 u213 u214 u215 u216 u217 u218 u219 u220 u221 u222 u223 u224 : Value) (K : Act → World → Prop) (hK : ∀ a w1, (tl14 (tl14 (tl14 (tl14 (Try.f7.body.getD .skip))))).wp Try.prog (bodyPost Try.prog Try.f7 fun e w' => e = .returned (.bool true) ∧ Below w.heap.size w w') a w1 → K a w1) :
    (hd14 (tl14 (tl14 (tl14 (Try.f7.body.getD .skip))))).wp Try.prog (Exit.then K (bodyPost Try.prog Try.f7 fun e w' => e = .returned (.bool true) ∧ Below w.heap.size w w')) ⟨List.toArray (u0 :: u1 :: u2 :: u3 :: u4 :: u5 :: u6 :: u7 :: u8 :: u9 :: u10 :: u11 :: u12 :: u13 :: u14 :: u15 :: u16 :: u17 :: u18 :: u19 :: u20 :: u21 :: u22 :: u23 :: u24 :: u25 :: u26 :: u27 :: u28 :: u29 :: u30 :: u31 :: u32 :: u33 :: u34 :: u35 :: u36 :: u37 :: u38 :: u39 :: u40 :: u41 :: u42 :: u43 :: u44 :: u45 :: u46 :: u47 :: u48 :: u49 :: u50 :: u51 :: u52 :: u53 :: u54 :: u55 :: u56 :: u57 :: u58 :: u59 :: u60 :: u61 :: u62 :: u63 :: u64 :: u65 :: u66 :: u67 :: u68 :: u69 :: u70 :: u71 :: u72 :: u73 :: u74 :: u75 :: u76 :: u77 :: u78 :: u79 :: u80 :: u81 :: u82 :: u83 :: u84 :: u85 :: u86 :: u87 :: u88 :: u89 :: u90 :: u91 :: u92 :: u93 :: u94 :: u95 :: u96 :: u97 :: u98 :: u99 :: u100 :: u101 :: u102 :: u103 :: u104 :: u105 :: u106 :: u107 :: u108 :: u109 :: u110 :: u111 :: u112 :: u113 :: u114 :: u115 :: u116 :: u117 :: u118 :: u119 :: u120 :: u121 :: u122 :: u123 :: u124 :: u125 :: u126 :: u127 :: u128 :: u129 :: u130 :: u131 :: u132 :: u133 :: u134 :: u135 :: u136 :: u137 :: u138 :: u139 :: u140 :: u141 :: u142 :: u143 :: u144 :: u145 :: u146 :: u147 :: u148 :: u149 :: u150 :: u151 :: u152 :: u153 :: u154 :: u155 :: u156 :: u157 :: u158 :: u159 :: u160 :: u161 :: u162 :: u163 :: u164 :: u165 :: u166 :: u167 :: u168 :: u169 :: u170 :: u171 :: u172 :: u173 :: u174 :: u175 :: u176 :: u177 :: u178 :: u179 :: u180 :: u181 :: u182 :: u183 :: u184 :: u185 :: u186 :: u187 :: u188 :: u189 :: u190 :: u191 :: u192 :: u193 :: u194 :: u195 :: u196 :: u197 :: u198 :: u199 :: u200 :: u201 :: u202 :: u203 :: u204 :: u205 :: u206 :: u207 :: u208 :: u209 :: u210 :: u211 :: u212 :: u213 :: u214 :: u215 :: u216 :: u217 :: u218 :: u219 :: u220 :: u221 :: u222 :: u223 :: u224 :: []), []⟩ wb := by
  have e1 : hd14 (tl14 (tl14 (tl14 (Try.f7.body.getD .skip)))) = hd14 (tl14 (tl14 (tl14 (Try.f7.body.getD .skip)))) := rfl
  conv at e1 => rhs; unfold Try.f7; dsimp only [tl14, hd14, Option.getD]
  have e2 : tl14 (tl14 (tl14 (tl14 (Try.f7.body.getD .skip)))) = tl14 (tl14 (tl14 (tl14 (Try.f7.body.getD .skip)))) := rfl
  conv at e2 => rhs; unfold Try.f7; dsimp only [tl14, hd14, Option.getD]
  rw [e1]
  rw [e2] at hK
  clear e1 e2
  go_cut [10] (fun s10 wx => ∃ G, s10 = .slice (some ⟨G, 0, none⟩) 20 20 ∧ MsgsAt wx G badsM ∧ Below w.heap.size w wx)
  case first =>
    have hg := Lib.hid (badsM_at wb)
    have hb := Lib.hid (hbw2.on (many_below wb (badsMMem wb.heap.size)))
    refine wp_region_seq ?_
    refine seq_val (w' := wb) (.agg #[.int .i64 1, .int .u64 1, .int .u64 0, .int .u64 0, .int .u64 1, .int .u64 0, .string ⟨#[]⟩, .string ⟨#[]⟩, .bool false, .bool false, .string ⟨#[]⟩, .slice none 0 0, .int .i64 0]) (by kernel_rfl) (by kernel_rfl) ?_
    refine seq_val (w' := wb) (.agg #[.int .i64 1, .int .u64 1, .int .u64 0, .int .u64 0, .int .u64 0, .int .u64 0, .string ⟨#[]⟩, .string ⟨#[]⟩, .bool false, .bool false, .string ⟨#[]⟩, .slice none 0 0, .int .i64 7]) (by kernel_rfl) (by kernel_rfl) ?_
    refine seq_val (w' := wb) (.agg #[.int .i64 2, .int .u64 1, .int .u64 1, .int .u64 0, .int .u64 1, .int .u64 0, .string ⟨#[97]⟩, .string ⟨#[]⟩, .bool true, .bool false, .string ⟨#[120]⟩, .slice none 0 0, .int .i64 0]) (by kernel_rfl) (by kernel_rfl) ?_
    refine seq_val (w' := wb) (.agg #[.int .i64 2, .int .u64 1, .int .u64 1, .int .u64 0, .int .u64 0, .int .u64 0, .string ⟨#[97]⟩, .string ⟨#[]⟩, .bool false, .bool false, .string ⟨#[]⟩, .slice none 0 0, .int .i64 0]) (by kernel_rfl) (by kernel_rfl) ?_
    refine seq_val (w' := wb) (.agg #[.int .i64 2, .int .u64 1, .int .u64 1, .int .u64 1, .int .u64 1, .int .u64 0, .string ⟨#[97]⟩, .string ⟨#[]⟩, .bool false, .bool false, .string ⟨#[]⟩, .slice none 0 0, .int .i64 0]) (by kernel_rfl) (by kernel_rfl) ?_
    refine seq_val (w' := wb) (.agg #[.int .i64 3, .int .u64 1, .int .u64 1, .int .u64 0, .int .u64 1099511627777, .int .u64 0, .string ⟨#[]⟩, .string ⟨#[]⟩, .bool false, .bool false, .string ⟨#[]⟩, .slice none 0 0, .int .i64 0]) (by kernel_rfl) (by kernel_rfl) ?_
    refine seq_val (w' := wb) (.agg #[.int .i64 4, .int .u64 1, .int .u64 1, .int .u64 1, .int .u64 0, .int .u64 0, .string ⟨#[]⟩, .string ⟨#[]⟩, .bool false, .bool false, .string ⟨#[]⟩, .slice none 0 0, .int .i64 0]) (by kernel_rfl) (by kernel_rfl) ?_
    refine seq_val (w' := wb) (.agg #[.int .i64 4, .int .u64 1, .int .u64 1, .int .u64 0, .int .u64 0, .int .u64 0, .string ⟨#[97]⟩, .string ⟨#[]⟩, .bool false, .bool false, .string ⟨#[]⟩, .slice none 0 0, .int .i64 0]) (by kernel_rfl) (by kernel_rfl) ?_
    refine seq_val (w' := wb) (.agg #[.int .i64 5, .int .u64 1, .int .u64 1, .int .u64 0, .int .u64 0, .int .u64 0, .string ⟨#[]⟩, .string ⟨#[]⟩, .bool false, .bool false, .string ⟨#[]⟩, .slice none 0 0, .int .i64 0]) (by kernel_rfl) (by kernel_rfl) ?_
    refine seq_val (w' := wb) (.agg #[.int .i64 6, .int .u64 1, .int .u64 1, .int .u64 1, .int .u64 1099511627777, .int .u64 0, .string ⟨#[]⟩, .string ⟨#[]⟩, .bool false, .bool false, .string ⟨#[]⟩, .slice none 0 0, .int .i64 0]) (by kernel_rfl) (by kernel_rfl) ?_
    refine seq_val (w' := wb) (.agg #[.int .i64 7, .int .u64 1, .int .u64 1, .int .u64 0, .int .u64 0, .int .u64 0, .string ⟨#[]⟩, .string ⟨#[]⟩, .bool false, .bool true, .string ⟨#[]⟩, .slice none 0 0, .int .i64 0]) (by kernel_rfl) (by kernel_rfl) ?_
    refine seq_val (w' := wb) (.agg #[.int .i64 8, .int .u64 1, .int .u64 1, .int .u64 0, .int .u64 0, .int .u64 0, .string ⟨#[]⟩, .string ⟨#[]⟩, .bool false, .bool false, .string ⟨#[]⟩, .slice none 0 0, .int .i64 0]) (by kernel_rfl) (by kernel_rfl) ?_
    refine seq_val (w' := wb) (.agg #[.int .i64 9, .int .u64 1, .int .u64 1, .int .u64 1, .int .u64 0, .int .u64 0, .string ⟨#[]⟩, .string ⟨#[]⟩, .bool false, .bool false, .string ⟨#[120]⟩, .slice none 0 0, .int .i64 0]) (by kernel_rfl) (by kernel_rfl) ?_
    refine seq_val (w' := wb) (.agg #[.string ⟨#[97]⟩, .int .u64 1, .bool true, .string ⟨#[]⟩]) (by kernel_rfl) (by kernel_rfl) ?_
    refine seq_val2 (w' := (wb.alloc (.cells #[.string ⟨#[97]⟩, .int .u64 1, .bool true, .string ⟨#[]⟩] 43))) (.slice (some ⟨wb.heap.size, 0, none⟩) 1 1) (.slice (some ⟨wb.heap.size + 0, 0, none⟩) 1 1) (by kernel_rfl) (by kernel_rfl) (by simp) ?_
    refine seq_val (w' := (wb.alloc (.cells #[.string ⟨#[97]⟩, .int .u64 1, .bool true, .string ⟨#[]⟩] 43))) (.agg #[.int .i64 10, .int .u64 1, .int .u64 1, .int .u64 1, .int .u64 0, .int .u64 0, .string ⟨#[]⟩, .string ⟨#[]⟩, .bool false, .bool false, .string ⟨#[]⟩, .slice (some ⟨wb.heap.size + 0, 0, none⟩) 1 1, .int .i64 0]) (by kernel_rfl) (by kernel_rfl) ?_
    refine seq_val (w' := (wb.alloc (.cells #[.string ⟨#[97]⟩, .int .u64 1, .bool true, .string ⟨#[]⟩] 43))) (.agg #[.string ⟨#[97]⟩, .int .u64 0, .bool false, .string ⟨#[]⟩]) (by kernel_rfl) (by kernel_rfl) ?_
    refine seq_val2 (w' := ((wb.alloc (.cells #[.string ⟨#[97]⟩, .int .u64 1, .bool true, .string ⟨#[]⟩] 43)).alloc (.cells #[.string ⟨#[97]⟩, .int .u64 0, .bool false, .string ⟨#[]⟩] 43))) (.slice (some ⟨(wb.alloc (.cells #[.string ⟨#[97]⟩, .int .u64 1, .bool true, .string ⟨#[]⟩] 43)).heap.size, 0, none⟩) 1 1) (.slice (some ⟨wb.heap.size + 1, 0, none⟩) 1 1) (by kernel_rfl) (by kernel_rfl) (by simp) ?_
    refine seq_val (w' := ((wb.alloc (.cells #[.string ⟨#[97]⟩, .int .u64 1, .bool true, .string ⟨#[]⟩] 43)).alloc (.cells #[.string ⟨#[97]⟩, .int .u64 0, .bool false, .string ⟨#[]⟩] 43))) (.agg #[.int .i64 10, .int .u64 1, .int .u64 1, .int .u64 1, .int .u64 0, .int .u64 0, .string ⟨#[]⟩, .string ⟨#[]⟩, .bool false, .bool false, .string ⟨#[]⟩, .slice (some ⟨wb.heap.size + 1, 0, none⟩) 1 1, .int .i64 0]) (by kernel_rfl) (by kernel_rfl) ?_
    refine seq_val (w' := ((wb.alloc (.cells #[.string ⟨#[97]⟩, .int .u64 1, .bool true, .string ⟨#[]⟩] 43)).alloc (.cells #[.string ⟨#[97]⟩, .int .u64 0, .bool false, .string ⟨#[]⟩] 43))) (.agg #[.string ⟨#[98]⟩, .int .u64 1, .bool false, .string ⟨#[]⟩]) (by kernel_rfl) (by kernel_rfl) ?_
    refine seq_val (w' := ((wb.alloc (.cells #[.string ⟨#[97]⟩, .int .u64 1, .bool true, .string ⟨#[]⟩] 43)).alloc (.cells #[.string ⟨#[97]⟩, .int .u64 0, .bool false, .string ⟨#[]⟩] 43))) (.agg #[.string ⟨#[97]⟩, .int .u64 2, .bool false, .string ⟨#[]⟩]) (by kernel_rfl) (by kernel_rfl) ?_
    refine seq_val2 (w' := (((wb.alloc (.cells #[.string ⟨#[97]⟩, .int .u64 1, .bool true, .string ⟨#[]⟩] 43)).alloc (.cells #[.string ⟨#[97]⟩, .int .u64 0, .bool false, .string ⟨#[]⟩] 43)).alloc (.cells #[.string ⟨#[98]⟩, .int .u64 1, .bool false, .string ⟨#[]⟩, .string ⟨#[97]⟩, .int .u64 2, .bool false, .string ⟨#[]⟩] 43))) (.slice (some ⟨((wb.alloc (.cells #[.string ⟨#[97]⟩, .int .u64 1, .bool true, .string ⟨#[]⟩] 43)).alloc (.cells #[.string ⟨#[97]⟩, .int .u64 0, .bool false, .string ⟨#[]⟩] 43)).heap.size, 0, none⟩) 2 2) (.slice (some ⟨wb.heap.size + 2, 0, none⟩) 2 2) (by kernel_rfl) (by kernel_rfl) (by simp) ?_
    refine seq_val (w' := (((wb.alloc (.cells #[.string ⟨#[97]⟩, .int .u64 1, .bool true, .string ⟨#[]⟩] 43)).alloc (.cells #[.string ⟨#[97]⟩, .int .u64 0, .bool false, .string ⟨#[]⟩] 43)).alloc (.cells #[.string ⟨#[98]⟩, .int .u64 1, .bool false, .string ⟨#[]⟩, .string ⟨#[97]⟩, .int .u64 2, .bool false, .string ⟨#[]⟩] 43))) (.agg #[.int .i64 10, .int .u64 1, .int .u64 1, .int .u64 1, .int .u64 0, .int .u64 0, .string ⟨#[]⟩, .string ⟨#[]⟩, .bool false, .bool false, .string ⟨#[]⟩, .slice (some ⟨wb.heap.size + 2, 0, none⟩) 2 2, .int .i64 0]) (by kernel_rfl) (by kernel_rfl) ?_
    refine seq_val (w' := (((wb.alloc (.cells #[.string ⟨#[97]⟩, .int .u64 1, .bool true, .string ⟨#[]⟩] 43)).alloc (.cells #[.string ⟨#[97]⟩, .int .u64 0, .bool false, .string ⟨#[]⟩] 43)).alloc (.cells #[.string ⟨#[98]⟩, .int .u64 1, .bool false, .string ⟨#[]⟩, .string ⟨#[97]⟩, .int .u64 2, .bool false, .string ⟨#[]⟩] 43))) (.agg #[.string ⟨#[97]⟩, .int .u64 1, .bool false, .string ⟨#[]⟩]) (by kernel_rfl) (by kernel_rfl) ?_
    refine seq_val (w' := (((wb.alloc (.cells #[.string ⟨#[97]⟩, .int .u64 1, .bool true, .string ⟨#[]⟩] 43)).alloc (.cells #[.string ⟨#[97]⟩, .int .u64 0, .bool false, .string ⟨#[]⟩] 43)).alloc (.cells #[.string ⟨#[98]⟩, .int .u64 1, .bool false, .string ⟨#[]⟩, .string ⟨#[97]⟩, .int .u64 2, .bool false, .string ⟨#[]⟩] 43))) (.agg #[.string ⟨#[97]⟩, .int .u64 2, .bool false, .string ⟨#[]⟩]) (by kernel_rfl) (by kernel_rfl) ?_
    refine seq_val2 (w' := ((((wb.alloc (.cells #[.string ⟨#[97]⟩, .int .u64 1, .bool true, .string ⟨#[]⟩] 43)).alloc (.cells #[.string ⟨#[97]⟩, .int .u64 0, .bool false, .string ⟨#[]⟩] 43)).alloc (.cells #[.string ⟨#[98]⟩, .int .u64 1, .bool false, .string ⟨#[]⟩, .string ⟨#[97]⟩, .int .u64 2, .bool false, .string ⟨#[]⟩] 43)).alloc (.cells #[.string ⟨#[97]⟩, .int .u64 1, .bool false, .string ⟨#[]⟩, .string ⟨#[97]⟩, .int .u64 2, .bool false, .string ⟨#[]⟩] 43))) (.slice (some ⟨(((wb.alloc (.cells #[.string ⟨#[97]⟩, .int .u64 1, .bool true, .string ⟨#[]⟩] 43)).alloc (.cells #[.string ⟨#[97]⟩, .int .u64 0, .bool false, .string ⟨#[]⟩] 43)).alloc (.cells #[.string ⟨#[98]⟩, .int .u64 1, .bool false, .string ⟨#[]⟩, .string ⟨#[97]⟩, .int .u64 2, .bool false, .string ⟨#[]⟩] 43)).heap.size, 0, none⟩) 2 2) (.slice (some ⟨wb.heap.size + 3, 0, none⟩) 2 2) (by kernel_rfl) (by kernel_rfl) (by simp) ?_
    refine seq_val (w' := ((((wb.alloc (.cells #[.string ⟨#[97]⟩, .int .u64 1, .bool true, .string ⟨#[]⟩] 43)).alloc (.cells #[.string ⟨#[97]⟩, .int .u64 0, .bool false, .string ⟨#[]⟩] 43)).alloc (.cells #[.string ⟨#[98]⟩, .int .u64 1, .bool false, .string ⟨#[]⟩, .string ⟨#[97]⟩, .int .u64 2, .bool false, .string ⟨#[]⟩] 43)).alloc (.cells #[.string ⟨#[97]⟩, .int .u64 1, .bool false, .string ⟨#[]⟩, .string ⟨#[97]⟩, .int .u64 2, .bool false, .string ⟨#[]⟩] 43))) (.agg #[.int .i64 10, .int .u64 1, .int .u64 1, .int .u64 1, .int .u64 0, .int .u64 0, .string ⟨#[]⟩, .string ⟨#[]⟩, .bool false, .bool false, .string ⟨#[]⟩, .slice (some ⟨wb.heap.size + 3, 0, none⟩) 2 2, .int .i64 0]) (by kernel_rfl) (by kernel_rfl) ?_
    refine seq_val (w' := ((((wb.alloc (.cells #[.string ⟨#[97]⟩, .int .u64 1, .bool true, .string ⟨#[]⟩] 43)).alloc (.cells #[.string ⟨#[97]⟩, .int .u64 0, .bool false, .string ⟨#[]⟩] 43)).alloc (.cells #[.string ⟨#[98]⟩, .int .u64 1, .bool false, .string ⟨#[]⟩, .string ⟨#[97]⟩, .int .u64 2, .bool false, .string ⟨#[]⟩] 43)).alloc (.cells #[.string ⟨#[97]⟩, .int .u64 1, .bool false, .string ⟨#[]⟩, .string ⟨#[97]⟩, .int .u64 2, .bool false, .string ⟨#[]⟩] 43))) (.agg #[.int .i64 11, .int .u64 1, .int .u64 1, .int .u64 1, .int .u64 0, .int .u64 0, .string ⟨#[]⟩, .string ⟨#[]⟩, .bool false, .bool false, .string ⟨#[]⟩, .slice none 0 0, .int .i64 1]) (by kernel_rfl) (by kernel_rfl) ?_
    refine seq_val (w' := ((((wb.alloc (.cells #[.string ⟨#[97]⟩, .int .u64 1, .bool true, .string ⟨#[]⟩] 43)).alloc (.cells #[.string ⟨#[97]⟩, .int .u64 0, .bool false, .string ⟨#[]⟩] 43)).alloc (.cells #[.string ⟨#[98]⟩, .int .u64 1, .bool false, .string ⟨#[]⟩, .string ⟨#[97]⟩, .int .u64 2, .bool false, .string ⟨#[]⟩] 43)).alloc (.cells #[.string ⟨#[97]⟩, .int .u64 1, .bool false, .string ⟨#[]⟩, .string ⟨#[97]⟩, .int .u64 2, .bool false, .string ⟨#[]⟩] 43))) (.agg #[.int .i64 11, .int .u64 1, .int .u64 1, .int .u64 1, .int .u64 0, .int .u64 0, .string ⟨#[]⟩, .string ⟨#[]⟩, .bool false, .bool false, .string ⟨#[]⟩, .slice none 0 0, .int .i64 (-7)]) (by kernel_rfl) (by kernel_rfl) ?_
    refine seq_val (w' := ((((wb.alloc (.cells #[.string ⟨#[97]⟩, .int .u64 1, .bool true, .string ⟨#[]⟩] 43)).alloc (.cells #[.string ⟨#[97]⟩, .int .u64 0, .bool false, .string ⟨#[]⟩] 43)).alloc (.cells #[.string ⟨#[98]⟩, .int .u64 1, .bool false, .string ⟨#[]⟩, .string ⟨#[97]⟩, .int .u64 2, .bool false, .string ⟨#[]⟩] 43)).alloc (.cells #[.string ⟨#[97]⟩, .int .u64 1, .bool false, .string ⟨#[]⟩, .string ⟨#[97]⟩, .int .u64 2, .bool false, .string ⟨#[]⟩] 43))) (.agg #[.int .i64 0, .int .u64 0, .int .u64 0, .int .u64 0, .int .u64 0, .int .u64 0, .string ⟨#[]⟩, .string ⟨#[]⟩, .bool false, .bool false, .string ⟨#[]⟩, .slice none 0 0, .int .i64 0]) (by kernel_rfl) (by kernel_rfl) ?_
    refine seq_val2 (w' := (((((wb.alloc (.cells #[.string ⟨#[97]⟩, .int .u64 1, .bool true, .string ⟨#[]⟩] 43)).alloc (.cells #[.string ⟨#[97]⟩, .int .u64 0, .bool false, .string ⟨#[]⟩] 43)).alloc (.cells #[.string ⟨#[98]⟩, .int .u64 1, .bool false, .string ⟨#[]⟩, .string ⟨#[97]⟩, .int .u64 2, .bool false, .string ⟨#[]⟩] 43)).alloc (.cells #[.string ⟨#[97]⟩, .int .u64 1, .bool false, .string ⟨#[]⟩, .string ⟨#[97]⟩, .int .u64 2, .bool false, .string ⟨#[]⟩] 43)).alloc (.cells #[.int .i64 1, .int .u64 1, .int .u64 0, .int .u64 0, .int .u64 1, .int .u64 0, .string ⟨#[]⟩, .string ⟨#[]⟩, .bool false, .bool false, .string ⟨#[]⟩, .slice none 0 0, .int .i64 0, .int .i64 1, .int .u64 1, .int .u64 0, .int .u64 0, .int .u64 0, .int .u64 0, .string ⟨#[]⟩, .string ⟨#[]⟩, .bool false, .bool false, .string ⟨#[]⟩, .slice none 0 0, .int .i64 7, .int .i64 2, .int .u64 1, .int .u64 1, .int .u64 0, .int .u64 1, .int .u64 0, .string ⟨#[97]⟩, .string ⟨#[]⟩, .bool true, .bool false, .string ⟨#[120]⟩, .slice none 0 0, .int .i64 0, .int .i64 2, .int .u64 1, .int .u64 1, .int .u64 0, .int .u64 0, .int .u64 0, .string ⟨#[97]⟩, .string ⟨#[]⟩, .bool false, .bool false, .string ⟨#[]⟩, .slice none 0 0, .int .i64 0, .int .i64 2, .int .u64 1, .int .u64 1, .int .u64 1, .int .u64 1, .int .u64 0, .string ⟨#[97]⟩, .string ⟨#[]⟩, .bool false, .bool false, .string ⟨#[]⟩, .slice none 0 0, .int .i64 0, .int .i64 3, .int .u64 1, .int .u64 1, .int .u64 0, .int .u64 1099511627777, .int .u64 0, .string ⟨#[]⟩, .string ⟨#[]⟩, .bool false, .bool false, .string ⟨#[]⟩, .slice none 0 0, .int .i64 0, .int .i64 4, .int .u64 1, .int .u64 1, .int .u64 1, .int .u64 0, .int .u64 0, .string ⟨#[]⟩, .string ⟨#[]⟩, .bool false, .bool false, .string ⟨#[]⟩, .slice none 0 0, .int .i64 0, .int .i64 4, .int .u64 1, .int .u64 1, .int .u64 0, .int .u64 0, .int .u64 0, .string ⟨#[97]⟩, .string ⟨#[]⟩, .bool false, .bool false, .string ⟨#[]⟩, .slice none 0 0, .int .i64 0, .int .i64 5, .int .u64 1, .int .u64 1, .int .u64 0, .int .u64 0, .int .u64 0, .string ⟨#[]⟩, .string ⟨#[]⟩, .bool false, .bool false, .string ⟨#[]⟩, .slice none 0 0, .int .i64 0, .int .i64 6, .int .u64 1, .int .u64 1, .int .u64 1, .int .u64 1099511627777, .int .u64 0, .string ⟨#[]⟩, .string ⟨#[]⟩, .bool false, .bool false, .string ⟨#[]⟩, .slice none 0 0, .int .i64 0, .int .i64 7, .int .u64 1, .int .u64 1, .int .u64 0, .int .u64 0, .int .u64 0, .string ⟨#[]⟩, .string ⟨#[]⟩, .bool false, .bool true, .string ⟨#[]⟩, .slice none 0 0, .int .i64 0, .int .i64 8, .int .u64 1, .int .u64 1, .int .u64 0, .int .u64 0, .int .u64 0, .string ⟨#[]⟩, .string ⟨#[]⟩, .bool false, .bool false, .string ⟨#[]⟩, .slice none 0 0, .int .i64 0, .int .i64 9, .int .u64 1, .int .u64 1, .int .u64 1, .int .u64 0, .int .u64 0, .string ⟨#[]⟩, .string ⟨#[]⟩, .bool false, .bool false, .string ⟨#[120]⟩, .slice none 0 0, .int .i64 0, .int .i64 10, .int .u64 1, .int .u64 1, .int .u64 1, .int .u64 0, .int .u64 0, .string ⟨#[]⟩, .string ⟨#[]⟩, .bool false, .bool false, .string ⟨#[]⟩, .slice (some ⟨wb.heap.size + 0, 0, none⟩) 1 1, .int .i64 0, .int .i64 10, .int .u64 1, .int .u64 1, .int .u64 1, .int .u64 0, .int .u64 0, .string ⟨#[]⟩, .string ⟨#[]⟩, .bool false, .bool false, .string ⟨#[]⟩, .slice (some ⟨wb.heap.size + 1, 0, none⟩) 1 1, .int .i64 0, .int .i64 10, .int .u64 1, .int .u64 1, .int .u64 1, .int .u64 0, .int .u64 0, .string ⟨#[]⟩, .string ⟨#[]⟩, .bool false, .bool false, .string ⟨#[]⟩, .slice (some ⟨wb.heap.size + 2, 0, none⟩) 2 2, .int .i64 0, .int .i64 10, .int .u64 1, .int .u64 1, .int .u64 1, .int .u64 0, .int .u64 0, .string ⟨#[]⟩, .string ⟨#[]⟩, .bool false, .bool false, .string ⟨#[]⟩, .slice (some ⟨wb.heap.size + 3, 0, none⟩) 2 2, .int .i64 0, .int .i64 11, .int .u64 1, .int .u64 1, .int .u64 1, .int .u64 0, .int .u64 0, .string ⟨#[]⟩, .string ⟨#[]⟩, .bool false, .bool false, .string ⟨#[]⟩, .slice none 0 0, .int .i64 1, .int .i64 11, .int .u64 1, .int .u64 1, .int .u64 1, .int .u64 0, .int .u64 0, .string ⟨#[]⟩, .string ⟨#[]⟩, .bool false, .bool false, .string ⟨#[]⟩, .slice none 0 0, .int .i64 (-7), .int .i64 0, .int .u64 0, .int .u64 0, .int .u64 0, .int .u64 0, .int .u64 0, .string ⟨#[]⟩, .string ⟨#[]⟩, .bool false, .bool false, .string ⟨#[]⟩, .slice none 0 0, .int .i64 0] 26))) (.slice (some ⟨((((wb.alloc (.cells #[.string ⟨#[97]⟩, .int .u64 1, .bool true, .string ⟨#[]⟩] 43)).alloc (.cells #[.string ⟨#[97]⟩, .int .u64 0, .bool false, .string ⟨#[]⟩] 43)).alloc (.cells #[.string ⟨#[98]⟩, .int .u64 1, .bool false, .string ⟨#[]⟩, .string ⟨#[97]⟩, .int .u64 2, .bool false, .string ⟨#[]⟩] 43)).alloc (.cells #[.string ⟨#[97]⟩, .int .u64 1, .bool false, .string ⟨#[]⟩, .string ⟨#[97]⟩, .int .u64 2, .bool false, .string ⟨#[]⟩] 43)).heap.size, 0, none⟩) 20 20) (.slice (some ⟨wb.heap.size + 4, 0, none⟩) 20 20) (by kernel_rfl) (by kernel_rfl) (by simp) ?_
    refine seq_val (w' := (((((wb.alloc (.cells #[.string ⟨#[97]⟩, .int .u64 1, .bool true, .string ⟨#[]⟩] 43)).alloc (.cells #[.string ⟨#[97]⟩, .int .u64 0, .bool false, .string ⟨#[]⟩] 43)).alloc (.cells #[.string ⟨#[98]⟩, .int .u64 1, .bool false, .string ⟨#[]⟩, .string ⟨#[97]⟩, .int .u64 2, .bool false, .string ⟨#[]⟩] 43)).alloc (.cells #[.string ⟨#[97]⟩, .int .u64 1, .bool false, .string ⟨#[]⟩, .string ⟨#[97]⟩, .int .u64 2, .bool false, .string ⟨#[]⟩] 43)).alloc (.cells #[.int .i64 1, .int .u64 1, .int .u64 0, .int .u64 0, .int .u64 1, .int .u64 0, .string ⟨#[]⟩, .string ⟨#[]⟩, .bool false, .bool false, .string ⟨#[]⟩, .slice none 0 0, .int .i64 0, .int .i64 1, .int .u64 1, .int .u64 0, .int .u64 0, .int .u64 0, .int .u64 0, .string ⟨#[]⟩, .string ⟨#[]⟩, .bool false, .bool false, .string ⟨#[]⟩, .slice none 0 0, .int .i64 7, .int .i64 2, .int .u64 1, .int .u64 1, .int .u64 0, .int .u64 1, .int .u64 0, .string ⟨#[97]⟩, .string ⟨#[]⟩, .bool true, .bool false, .string ⟨#[120]⟩, .slice none 0 0, .int .i64 0, .int .i64 2, .int .u64 1, .int .u64 1, .int .u64 0, .int .u64 0, .int .u64 0, .string ⟨#[97]⟩, .string ⟨#[]⟩, .bool false, .bool false, .string ⟨#[]⟩, .slice none 0 0, .int .i64 0, .int .i64 2, .int .u64 1, .int .u64 1, .int .u64 1, .int .u64 1, .int .u64 0, .string ⟨#[97]⟩, .string ⟨#[]⟩, .bool false, .bool false, .string ⟨#[]⟩, .slice none 0 0, .int .i64 0, .int .i64 3, .int .u64 1, .int .u64 1, .int .u64 0, .int .u64 1099511627777, .int .u64 0, .string ⟨#[]⟩, .string ⟨#[]⟩, .bool false, .bool false, .string ⟨#[]⟩, .slice none 0 0, .int .i64 0, .int .i64 4, .int .u64 1, .int .u64 1, .int .u64 1, .int .u64 0, .int .u64 0, .string ⟨#[]⟩, .string ⟨#[]⟩, .bool false, .bool false, .string ⟨#[]⟩, .slice none 0 0, .int .i64 0, .int .i64 4, .int .u64 1, .int .u64 1, .int .u64 0, .int .u64 0, .int .u64 0, .string ⟨#[97]⟩, .string ⟨#[]⟩, .bool false, .bool false, .string ⟨#[]⟩, .slice none 0 0, .int .i64 0, .int .i64 5, .int .u64 1, .int .u64 1, .int .u64 0, .int .u64 0, .int .u64 0, .string ⟨#[]⟩, .string ⟨#[]⟩, .bool false, .bool false, .string ⟨#[]⟩, .slice none 0 0, .int .i64 0, .int .i64 6, .int .u64 1, .int .u64 1, .int .u64 1, .int .u64 1099511627777, .int .u64 0, .string ⟨#[]⟩, .string ⟨#[]⟩, .bool false, .bool false, .string ⟨#[]⟩, .slice none 0 0, .int .i64 0, .int .i64 7, .int .u64 1, .int .u64 1, .int .u64 0, .int .u64 0, .int .u64 0, .string ⟨#[]⟩, .string ⟨#[]⟩, .bool false, .bool true, .string ⟨#[]⟩, .slice none 0 0, .int .i64 0, .int .i64 8, .int .u64 1, .int .u64 1, .int .u64 0, .int .u64 0, .int .u64 0, .string ⟨#[]⟩, .string ⟨#[]⟩, .bool false, .bool false, .string ⟨#[]⟩, .slice none 0 0, .int .i64 0, .int .i64 9, .int .u64 1, .int .u64 1, .int .u64 1, .int .u64 0, .int .u64 0, .string ⟨#[]⟩, .string ⟨#[]⟩, .bool false, .bool false, .string ⟨#[120]⟩, .slice none 0 0, .int .i64 0, .int .i64 10, .int .u64 1, .int .u64 1, .int .u64 1, .int .u64 0, .int .u64 0, .string ⟨#[]⟩, .string ⟨#[]⟩, .bool false, .bool false, .string ⟨#[]⟩, .slice (some ⟨wb.heap.size + 0, 0, none⟩) 1 1, .int .i64 0, .int .i64 10, .int .u64 1, .int .u64 1, .int .u64 1, .int .u64 0, .int .u64 0, .string ⟨#[]⟩, .string ⟨#[]⟩, .bool false, .bool false, .string ⟨#[]⟩, .slice (some ⟨wb.heap.size + 1, 0, none⟩) 1 1, .int .i64 0, .int .i64 10, .int .u64 1, .int .u64 1, .int .u64 1, .int .u64 0, .int .u64 0, .string ⟨#[]⟩, .string ⟨#[]⟩, .bool false, .bool false, .string ⟨#[]⟩, .slice (some ⟨wb.heap.size + 2, 0, none⟩) 2 2, .int .i64 0, .int .i64 10, .int .u64 1, .int .u64 1, .int .u64 1, .int .u64 0, .int .u64 0, .string ⟨#[]⟩, .string ⟨#[]⟩, .bool false, .bool false, .string ⟨#[]⟩, .slice (some ⟨wb.heap.size + 3, 0, none⟩) 2 2, .int .i64 0, .int .i64 11, .int .u64 1, .int .u64 1, .int .u64 1, .int .u64 0, .int .u64 0, .string ⟨#[]⟩, .string ⟨#[]⟩, .bool false, .bool false, .string ⟨#[]⟩, .slice none 0 0, .int .i64 1, .int .i64 11, .int .u64 1, .int .u64 1, .int .u64 1, .int .u64 0, .int .u64 0, .string ⟨#[]⟩, .string ⟨#[]⟩, .bool false, .bool false, .string ⟨#[]⟩, .slice none 0 0, .int .i64 (-7), .int .i64 0, .int .u64 0, .int .u64 0, .int .u64 0, .int .u64 0, .int .u64 0, .string ⟨#[]⟩, .string ⟨#[]⟩, .bool false, .bool false, .string ⟨#[]⟩, .slice none 0 0, .int .i64 0] 26))) (.slice (some ⟨wb.heap.size + 4, 0, none⟩) 20 20) (by kernel_rfl) (by kernel_rfl) ?_
    refine seq_nil ?_
    simp only [Act.put, List.setIfInBounds_toArray, List.set_cons_zero, List.set_cons_succ]
    go_wp2_with fail
    go_meet
    exact ⟨_, rfl, of_world_eq (Y := many wb (badsMMem wb.heap.size)) (by kernel_rfl) ⟨hg.out, hb.out⟩⟩
  case rest =>
  obtain ⟨G, rfl, hg2, hb2⟩ := hcut
  clear hbw2
  generalize wc = wa at *
  have hGlt := hg2.1
  go_wp2_with fail
  go_loopw [11, 12, 13] (fun s11 _ _ wr => ∃ i : Nat, i ≤ 20 ∧ s11 = .int .i64 i ∧ Below wa.heap.size wa wr) (fun s11 _ _ _ => 20 - (intOf s11).toNat)
  case atStart => exact ⟨0, by omega, rfl, Below.refl _ _⟩
  case round =>
    obtain ⟨i, hi, rfl, hbr⟩ := hrel
    by_cases hlt : i < 20
    · obtain ⟨x, hx⟩ : ∃ x, badsM[i]? = some x := ⟨_, List.getElem?_eq_getElem (show i < badsM.length from hlt)⟩
      have hm := List.mem_of_getElem? hx
      have hck := bads_fine x hm
      obtain ⟨hok, hk1, hk2⟩ := okB_ok (bads_ok x hm)
      obtain ⟨a, n, c, hin, hr⟩ := hg2.2 i x hx
      obtain ⟨c0, c1, c2, c3, c4, c5, c6, c7, c8, c9, c10, c11, c12⟩ := (hin.on hbr hGlt).cells
      have HE := Lib.hid (show Calls Try.prog 8 #[.agg #[.int .i64 x.kind, .int .u64 x.te, .int .u64 x.di, .int .u64 x.id, .int .u64 x.lsn, .int .u64 x.low, .string ⟨x.key.toArray⟩, .string ⟨x.hi.toArray⟩, .bool x.del, .bool x.found, .string ⟨x.val.toArray⟩, .slice a n c, .int .i64 x.err]] wr fun e w'' => e = .returned (.tuple #[.string ⟨#[]⟩, .int .i64 2]) ∧ Below wr.heap.size wr w'' from
        (encode_any x a n c wr (hr.on hbr) hok).mono fun e w'' ⟨h1, h2⟩ => ⟨by rw [h1, hck]; unfold encM; rw [if_neg (by omega)]; rfl, h2⟩)
      clear hm hck hok hk1 hk2 hin hr hx
      go_wp2_with fail
      refine HE.out.mono ?_
      rintro e w1 ⟨rfl, hb1⟩
      have hbr1 := hbr.on hb1
      clear c0 c1 c2 c3 c4 c5 c6 c7 c8 c9 c10 c11 c12 hb1 hbr HE
      go_wp2_with fail
      go_roundw
      case rel => exact ⟨i + 1, by omega, by go_num, hbr1⟩
      case measure => simp [intOf]; omega
    · have hge : 20 ≤ i := by omega
      clear hlt
      have hbw2 := hb2.on hbr
      clear hbr hg2 hGlt hb2
      generalize wr = wb at *
      go_upto_region 29 with fail
      go_cut [14] (fun s14 wx => ∃ G, s14 = .slice (some ⟨G, 0, none⟩) 6 6 ∧ StrsAt wx G raws ∧ Below w.heap.size w wx)
      case first =>
        go_wp2_with fail
        refine (seal_any [] _ (by decide)).mono ?_
        rintro e w1 ⟨rfl, hb1⟩
        obtain ⟨X1, hX1⟩ : ∃ X, sealI [] = X := ⟨_, rfl⟩
        rw [hX1]
        have HX1 := Lib.hid hX1
        clear hX1
        go_wp2_with fail
        refine (seal_any [1, 3, 0, 0, 0, 0, 0, 0, 2, 0, 0, 0, 0] _ (by decide)).mono ?_
        rintro e w2 ⟨rfl, hb2⟩
        obtain ⟨X2, hX2⟩ : ∃ X, sealI [1, 3, 0, 0, 0, 0, 0, 0, 2, 0, 0, 0, 0] = X := ⟨_, rfl⟩
        rw [hX2]
        have HX2 := Lib.hid hX2
        clear hX2
        go_wp2_with fail
        refine (seal_any [1, 3, 0, 0, 0, 0, 0, 0, 0, 0, 0, 0, 0, 0] _ (by decide)).mono ?_
        rintro e w3 ⟨rfl, hb3⟩
        obtain ⟨X3, hX3⟩ : ∃ X, sealI [1, 3, 0, 0, 0, 0, 0, 0, 0, 0, 0, 0, 0, 0] = X := ⟨_, rfl⟩
        rw [hX3]
        have HX3 := Lib.hid hX3
        clear hX3
        go_wp2_with fail
        refine (seal_any [129, 0, 3, 0, 0, 0, 0, 0, 0, 0, 0, 0, 0, 0] _ (by decide)).mono ?_
        rintro e w4 ⟨rfl, hb4⟩
        obtain ⟨X4, hX4⟩ : ∃ X, sealI [129, 0, 3, 0, 0, 0, 0, 0, 0, 0, 0, 0, 0, 0] = X := ⟨_, rfl⟩
        rw [hX4]
        have HX4 := Lib.hid hX4
        clear hX4
        go_wp2_with fail
        refine (seal_any [1, 3, 0, 0, 0, 0, 0, 0, 0, 0, 0, 255, 255, 255, 255, 127] _ (by decide)).mono ?_
        rintro e w5 ⟨rfl, hb5⟩
        obtain ⟨X5, hX5⟩ : ∃ X, sealI [1, 3, 0, 0, 0, 0, 0, 0, 0, 0, 0, 255, 255, 255, 255, 127] = X := ⟨_, rfl⟩
        rw [hX5]
        have HX5 := Lib.hid hX5
        clear hX5
        go_wp2_with fail
        have hraws : raws = [X1, X2, X3, X4, [1, 3, 0, 0, 0, 0, 0, 0, 0, 0, 0, 0, 0], X5] := by
          unfold raws
          rw [HX1.out, HX2.out, HX3.out, HX4.out, HX5.out]
        have hb6 := (((hbw2.on hb1).on hb2).on hb3 |>.on hb4).on hb5
        go_meet
        refine ⟨w5.heap.size, rfl, ?_, ?_⟩
        · rw [hraws]; exact strs_blk _ (Blk.new _ _ _)
        · exact hb6.alloc hb6.size _
      case rest =>
      obtain ⟨G, rfl, hG, hbw⟩ := hcut
      clear hbw2
      generalize wc = wa at *
      have hGlt := hG.1
      clear hge hi
      go_wp2_with fail
      go_loopw [15, 16, 17] (fun s15 _ _ wr => ∃ i : Nat, i ≤ 6 ∧ s15 = .int .i64 i ∧ Below wa.heap.size wa wr) (fun s15 _ _ _ => 6 - (intOf s15).toNat)
      case atStart => exact ⟨0, by omega, rfl, Below.refl _ _⟩
      case round =>
        obtain ⟨i, hi, rfl, hbr⟩ := hrel
        by_cases hlt : i < 6
        · obtain ⟨l, hl⟩ : ∃ l, raws[i]? = some l := ⟨_, List.getElem?_eq_getElem (show i < raws.length from hlt)⟩
          have hm := List.mem_of_getElem? hl
          have hro := raws_fine l hm
          have hll := raws_len l hm
          have g0 := (hG.on hbr).2 i l hl
          clear hl hm
          go_wp2_with fail
          refine (decode_any l wr (by omega)).mono ?_
          rw [hro]
          rintro e w1 ⟨hb1, rfl⟩
          have hbr1 := hbr.on hb1
          unfold msgV zeroMsg
          clear g0 hb1 hbr hro
          go_wp2_with fail
          go_roundw
          case rel => exact ⟨i + 1, by omega, by go_num, hbr1.alloc hbr1.size _⟩
          case measure => simp [intOf]; omega
        · have hge4 : 6 ≤ i := by omega
          clear hlt
          have hbw2 := hbw.on hbr
          clear hbr hG hGlt hbw
          generalize wr = wb at *
          go_upto_region 36 with fail
          clear hge4 hi
          go_wp2_with fail
          have hM0 := ManyTo.start wb
          change ManyTo wb [] (.slice none 0 0) (wb.alloc (.cells #[.int .i64 10, .int .u64 1, .int .u64 1, .int .u64 1, .int .u64 0, .int .u64 0, .string ⟨#[]⟩, .string ⟨#[]⟩, .bool false, .bool false, .string ⟨#[]⟩, .slice none 0 0, .int .i64 0] 26)) at hM0
          generalize wb.alloc (.cells #[.int .i64 10, .int .u64 1, .int .u64 1, .int .u64 1, .int .u64 0, .int .u64 0, .string ⟨#[]⟩, .string ⟨#[]⟩, .bool false, .bool false, .string ⟨#[]⟩, .slice none 0 0, .int .i64 0] 26) = w0 at *
          go_loopw [19] (fun s19 wr => ∃ (i : Nat) (v : Value), i ≤ 500 ∧ s19 = .int .i64 i ∧ ManyTo wb (manyRecs i) v wr) (fun s19 _ => 500 - (intOf s19).toNat)
          case atStart => exact ⟨0, _, by omega, rfl, hM0⟩
          case round =>
            obtain ⟨i, v, hi, rfl, hto⟩ := hrel
            by_cases hlt : i < 500
            · have c11 : wr.cell? ⟨wb.heap.size, 11, none⟩ = some v := by rw [hto.msg.cell]; rfl
              have hconv := key_conv wr i hlt
              have ho1 := hto.on ((Below.refl wr.heap.size wr).alloc (Nat.le_refl _) (.cells #[.int .u8 (97 + (i : Int) / 26), .int .u8 (97 + (i : Int) % 26)] 5))
              obtain ⟨g, cap, w2, hrun, f11, z11, hto2⟩ := ho1.step (by rw [manyRecs_length]; omega) ⟨keyOf i, 1, false, []⟩ 23 #[.string ⟨(keyOf i).toArray⟩, .int .u64 1, .bool false, .string ⟨#[]⟩] rfl (wr.heap.size + 1) (by simp)
              rw [manyRecs_length] at hrun hto2
              clear hto ho1
              go_wp2_with (at_builtin; (with_reducible refine wpList_append_run rfl _ _ _ rfl _ _ _ _ ?_ ?_ hrun ?_); rfl; rfl)
              clear hrun hconv c11 f11 z11
              go_roundw
              case rel => exact ⟨i + 1, _, by omega, by go_num, by rw [manyRecs_succ]; exact hto2⟩
              case measure => simp [intOf]; omega
            · obtain rfl : i = 500 := by omega
              clear hlt hi hM0
              obtain ⟨p, n, cp, rfl, hr⟩ := hto.recs (by rw [manyRecs_length]; omega)
              go_upto_region 41 with fail
              obtain ⟨d0, d1, d2, d3, d4, d5, d6, d7, d8, d9, d10, d11, d12⟩ : wr.cell? ⟨wb.heap.size, 0, none⟩ = some (.int .i64 10) ∧ wr.cell? ⟨wb.heap.size, 1, none⟩ = some (.int .u64 1) ∧ wr.cell? ⟨wb.heap.size, 2, none⟩ = some (.int .u64 1) ∧ wr.cell? ⟨wb.heap.size, 3, none⟩ = some (.int .u64 1) ∧ wr.cell? ⟨wb.heap.size, 4, none⟩ = some (.int .u64 0) ∧ wr.cell? ⟨wb.heap.size, 5, none⟩ = some (.int .u64 0) ∧ wr.cell? ⟨wb.heap.size, 6, none⟩ = some (.string ⟨#[]⟩) ∧ wr.cell? ⟨wb.heap.size, 7, none⟩ = some (.string ⟨#[]⟩) ∧ wr.cell? ⟨wb.heap.size, 8, none⟩ = some (.bool false) ∧ wr.cell? ⟨wb.heap.size, 9, none⟩ = some (.bool false) ∧ wr.cell? ⟨wb.heap.size, 10, none⟩ = some (.string ⟨#[]⟩) ∧ wr.cell? ⟨wb.heap.size, 11, none⟩ = some (.slice p n cp) ∧ wr.cell? ⟨wb.heap.size, 12, none⟩ = some (.int .i64 0) := MsgAt.cells (m := manyM (manyRecs 500)) hto.msg
              have HC := Lib.hid (show Calls Try.prog 10 #[.agg #[.int .i64 10, .int .u64 1, .int .u64 1, .int .u64 1, .int .u64 0, .int .u64 0, .string ⟨#[]⟩, .string ⟨#[]⟩, .bool false, .bool false, .string ⟨#[]⟩, .slice p n cp, .int .i64 0]] wr fun e w'' => e = .returned (.int .i64 0) ∧ Below wr.heap.size wr w'' from
                (check_any (manyM (manyRecs 500)) p n cp wr hr (manyM_ok _ (many_oks 500))).mono fun e w'' ⟨h1, h2⟩ => ⟨by rw [h1, many_check]; rfl, h2⟩)
              clear hr
              go_wp2_with fail
              refine HC.out.mono ?_
              rintro e w1 ⟨rfl, hb1⟩
              clear d0 d1 d2 d3 d4 d5 d6 d7 d8 d9 d10 d11 d12 HC
              have ho1 := hto.on hb1
              clear hto hb1
              have c11 : w1.cell? ⟨wb.heap.size, 11, none⟩ = some (.slice p n cp) := by rw [ho1.msg.cell]; rfl
              go_upto_region 42 with fail
              obtain ⟨g, cap, w2, hrun, f11, z11, hto2⟩ := ho1.step (by rw [manyRecs_length]; omega) ⟨[122, 122], 1, false, []⟩ 23 #[.string ⟨#[122, 122]⟩, .int .u64 1, .bool false, .string ⟨#[]⟩] rfl w1.heap.size rfl
              rw [manyRecs_length] at hrun hto2
              clear ho1
              go_upto_region 43 with (at_builtin; (with_reducible refine wpList_append_run rfl _ _ _ rfl _ _ _ _ ?_ ?_ hrun ?_); rfl; rfl)
              clear hrun c11 f11 z11
              generalize w2.setCell ⟨wb.heap.size, 11, none⟩ (.slice (some ⟨g, 0, none⟩) (500 + 1) cap) = w3 at *
              go_wp2_with fail
              refine (works_any w3).mono ?_
              rintro e w4 ⟨rfl, hb4⟩
              have ho4 := hto2.on hb4
              clear hto2 hb4
              obtain ⟨p, n, cp, hv, hr⟩ := ho4.recs (by simp [manyRecs_length])
              rw [hv] at ho4
              clear hv
              obtain ⟨d0, d1, d2, d3, d4, d5, d6, d7, d8, d9, d10, d11, d12⟩ : w4.cell? ⟨wb.heap.size, 0, none⟩ = some (.int .i64 10) ∧ w4.cell? ⟨wb.heap.size, 1, none⟩ = some (.int .u64 1) ∧ w4.cell? ⟨wb.heap.size, 2, none⟩ = some (.int .u64 1) ∧ w4.cell? ⟨wb.heap.size, 3, none⟩ = some (.int .u64 1) ∧ w4.cell? ⟨wb.heap.size, 4, none⟩ = some (.int .u64 0) ∧ w4.cell? ⟨wb.heap.size, 5, none⟩ = some (.int .u64 0) ∧ w4.cell? ⟨wb.heap.size, 6, none⟩ = some (.string ⟨#[]⟩) ∧ w4.cell? ⟨wb.heap.size, 7, none⟩ = some (.string ⟨#[]⟩) ∧ w4.cell? ⟨wb.heap.size, 8, none⟩ = some (.bool false) ∧ w4.cell? ⟨wb.heap.size, 9, none⟩ = some (.bool false) ∧ w4.cell? ⟨wb.heap.size, 10, none⟩ = some (.string ⟨#[]⟩) ∧ w4.cell? ⟨wb.heap.size, 11, none⟩ = some (.slice p n cp) ∧ w4.cell? ⟨wb.heap.size, 12, none⟩ = some (.int .i64 0) := MsgAt.cells (m := manyM (manyRecs 500 ++ [⟨[122, 122], 1, false, []⟩])) ho4.msg
              have HC := Lib.hid (show Calls Try.prog 10 #[.agg #[.int .i64 10, .int .u64 1, .int .u64 1, .int .u64 1, .int .u64 0, .int .u64 0, .string ⟨#[]⟩, .string ⟨#[]⟩, .bool false, .bool false, .string ⟨#[]⟩, .slice p n cp, .int .i64 0]] w4 fun e w'' => e = .returned (.int .i64 3) ∧ Below w4.heap.size w4 w'' from
                (check_any (manyM (manyRecs 500 ++ [(⟨[122, 122], 1, false, []⟩ : Rec)])) p n cp w4 hr (manyM_ok _ zz_ok)).mono fun e w'' ⟨h1, h2⟩ => ⟨by rw [h1, many_long]; rfl, h2⟩)
              clear hr
              go_wp2_with fail
              refine HC.out.mono ?_
              rintro e w5 ⟨rfl, hb5⟩
              have hbe := hbw2.on (ho4.bel.on hb5)
              clear d0 d1 d2 d3 d4 d5 d6 d7 d8 d9 d10 d11 d12 HC ho4 hb5 hbw2
              have HO := Lib.hid (recs_blk [oddR] 1 (Blk.new w5 (recsCells [oddR]) 43) rfl (by decide))
              have hbe2 := hbe.alloc hbe.size (.cells (recsCells [oddR]).toArray 43)
              go_wp2_with fail
              refine (check_any oddM (some ⟨w5.heap.size, 0, none⟩) 1 1 _ HO.out odd_ok).mono ?_
              rintro e w6 ⟨rfl, hb6⟩
              rw [odd_check]
              have hbf := hbe2.on hb6
              clear HO hbe hbe2 hb6
              go_wp2_with fail
              exact bodyPost_ret (results_tmp rfl _ _ _) rfl ⟨rfl, hbf⟩
end Go.Proofs.Ytnijijcbdajodaa
