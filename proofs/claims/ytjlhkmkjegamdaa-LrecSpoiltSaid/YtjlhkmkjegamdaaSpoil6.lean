/-
  The plain law of a spoilt entry: bytes of which one, behind the number of the sealed text's bytes, is another one are no entry's. No program in sight. No condition.
-/
import Derived.Test.YtjlhkmkjegamdaaPlain6
import Derived.Test.YtjlhkmkjegamdaaCrcBits
namespace Go.Proofs.Ytjlhkmkjegamdaa
set_option linter.unusedVariables false
set_option linter.unusedSimpArgs false
open Go.RowKit

/-- Sealed bytes, one of which is another one, are none. -/
theorem spoilt_open (l : List UInt8) (k : Nat) (c : UInt8) (hk : k < (sealI l).length) (hc : (sealI l)[k] ≠ c) : (openI ((sealI l).set k c)).2 = false := by
  cases h : (openI ((sealI l).set k c)).2 with
  | false => rfl
  | true =>
    exfalso
    have hlen : ((sealI l).set k c).length = (sealI l).length := List.length_set
    have hlaw := Bits.turned_law l ((sealI l).set k c) hlen (fun j => Bits.bit ((sealI l).set k c) j ^^ Bits.bit (sealI l) j) (8 * k) (fun j hj => by
      have hne : k ≠ j / 8 := by omega
      have e : Bits.bit ((sealI l).set k c) j = Bits.bit (sealI l) j := by
        unfold Bits.bit
        simp only [List.getD]
        rw [List.getElem?_set_ne hne]
      simp [e]) (fun j _ => by
        cases Bits.bit ((sealI l).set k c) j <;> cases Bits.bit (sealI l) j <;> rfl)
    have hz := hlaw.1 h
    have he := Bits.bytes_ext ((sealI l).set k c) (sealI l) hlen (fun j hj => by
      have := hz j hj
      cases h1 : Bits.bit ((sealI l).set k c) j <;> cases h2 : Bits.bit (sealI l) j <;> simp_all)
    have h1 : ((sealI l).set k c)[k]? = (sealI l)[k]? := by rw [he]
    rw [List.getElem?_set_self hk, List.getElem?_eq_getElem hk] at h1
    exact hc (Option.some.inj h1).symm

theorem putNum_len (n : Nat) (h : n < 16384) : (Wire.putNum n).length = if n < 128 then 1 else 2 := by
  unfold Wire.putNum
  by_cases h1 : n < 128
  · rw [put_small _ _ h1, if_pos h1]; rfl
  · rw [put_big _ _ (by omega), put_small _ _ (by omega), if_neg h1]; rfl

/-- Where the sealed text of an entry begins. -/
def headLen (n : Nat) : Nat := if 128 < n then 2 else 1
theorem enc_split (ts first : Nat) (rs : List Rec) : encBytes ts first rs = Wire.putNum (sealI (bodyBytes ts first rs)).length ++ sealI (bodyBytes ts first rs) := rfl
theorem head_is {ts first : Nat} {rs : List Rec} (hc : checkRes ts first rs = 0) : (Wire.putNum (sealI (bodyBytes ts first rs)).length).length = headLen (encBytes ts first rs).length ∧ headLen (encBytes ts first rs).length < (encBytes ts first rs).length := by
  have h := body_len hc
  have h4 := seal_length (bodyBytes ts first rs)
  have e := putNum_len (sealI (bodyBytes ts first rs)).length (by omega)
  rw [enc_split, List.length_append, e]
  unfold headLen
  by_cases h1 : (sealI (bodyBytes ts first rs)).length < 128
  · rw [if_pos h1, if_neg (by omega)]; omega
  · rw [if_neg h1, if_pos (by omega)]; omega

theorem read_spoilt {ts first : Nat} {rs : List Rec} (hc : checkRes ts first rs = 0) (k : Nat) (c : UInt8) (hk : k < (encBytes ts first rs).length) (h1 : headLen (encBytes ts first rs).length ≤ k) (hne : (encBytes ts first rs)[k] ≠ c) :
    readAll ((encBytes ts first rs).set k c) = none := by
  have hh := (head_is hc).1
  have hb := body_len hc
  have hlen : (encBytes ts first rs).length = (Wire.putNum (sealI (bodyBytes ts first rs)).length).length + (sealI (bodyBytes ts first rs)).length := by rw [enc_split, List.length_append]
  have hj : k - (Wire.putNum (sealI (bodyBytes ts first rs)).length).length < (sealI (bodyBytes ts first rs)).length := by omega
  have hne2 : (sealI (bodyBytes ts first rs))[k - (Wire.putNum (sealI (bodyBytes ts first rs)).length).length] ≠ c := by
    intro e
    apply hne
    simp only [enc_split]
    rw [List.getElem_append_right (by omega)]
    exact e
  have ho := spoilt_open (bodyBytes ts first rs) _ c hj hne2
  have he : (encBytes ts first rs).set k c = Wire.putText ((sealI (bodyBytes ts first rs)).set (k - (Wire.putNum (sealI (bodyBytes ts first rs)).length).length) c) ++ [] := by
    rw [enc_split, List.set_append_right _ _ (by omega)]
    unfold Wire.putText
    rw [List.length_set, List.append_nil]
  have hr := Wire.rText_put ((sealI (bodyBytes ts first rs)).set (k - (Wire.putNum (sealI (bodyBytes ts first rs)).length).length) c) [] (by rw [List.length_set]; omega)
  rw [he]
  unfold readAll
  rw [hr]
  simp only
  generalize openI ((sealI (bodyBytes ts first rs)).set (k - (Wire.putNum (sealI (bodyBytes ts first rs)).length).length) c) = o at *
  obtain ⟨t, b⟩ := o
  simp only at ho
  subst ho
  simp
end Go.Proofs.Ytjlhkmkjegamdaa
