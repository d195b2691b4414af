/-
  values.sign writes signV: how long it is; what is told ahead of the parts. Conditions: the tree lies in memory, its weight is bounded; strconv's table of powers holds what its initialiser lays.
-/
import Derived.Test.YtcpdogjcofkpcaaDoorSA
import Derived.Test.YtcpdogjcofkpcaaDoorVJ
import Derived.Test.YtcpdogjcofkpcaaDoorPow
namespace Go.Proofs.YtcpdogjcofkpcaaDoor
open Go.RowKit Go.Sort

theorem av_kid_w (x : AV) : (x.l.map fun y => 100 * y.w).sum = 100 * (x.v.l.map Val.w).sum := by
  rw [sum_mul, AV.v_l, List.map_map]; rfl
theorem sum_le_kids {x : AV} (f g : AV → Nat) (h : ∀ y ∈ x.l, f y ≤ g y) : (x.l.map f).sum ≤ (x.l.map g).sum := sum_le f g h
/-- How long a signed value is. -/
theorem sign_len {w : World} {lo hi : Nat} : ∀ (n : Nat) (x : AV), x.In w lo hi → x.w ≤ 1048576 → (signV n x.v).length ≤ 100 * x.w
  | 0, x, hx, hw => by
    have h := signH_len x.v (by rw [AV.v_k]; exact hx.kind.1) (by rw [AV.v_k]; exact hx.kind.2) hw
    have h2 := x.v.w_t
    rw [signV]
    have : x.v.w = x.w := rfl
    omega
  | n + 1, x, hx, hw => by
    have h := signH_len x.v (by rw [AV.v_k]; exact hx.kind.1) (by rw [AV.v_k]; exact hx.kind.2) hw
    have ih : ∀ y ∈ x.l, (signV n y.v).length ≤ 100 * y.w := fun y hy => sign_len n y (hx.kid hy) (by have := AV.w_kid hy; omega)
    have hv := Val.w_eq x.v
    have e : x.v.w = x.w := rfl
    rw [signV_s, List.length_append]
    by_cases h8 : x.v.k = 8
    · rw [if_pos h8, flat_sum]
      have hk : ∀ y ∈ x.v.l, (signV n y).length ≤ 100 * y.w := fun y hy => by
        rw [AV.v_l] at hy
        obtain ⟨z, hz, rfl⟩ := List.mem_map.1 hy
        exact ih z hz
      have h1 : (x.v.ents.map fun e => (keyH e.1 ++ signV n e.2).length).sum ≤ (x.v.ents.map fun e => (22 * (e.1.size + 1)) + 100 * e.2.w).sum := by
        refine sum_le _ _ fun e he => ?_
        obtain ⟨m1, m2⟩ := ents_mem he
        have a1 := hk e.2 m2
        have a2 := keyH_len e.1 (by have := Val.w_key m1; omega)
        rw [List.length_append]
        omega
      have h2 := ((ents_perm x.v).map fun e => 22 * (e.1.size + 1) + 100 * e.2.w).sum_nat
      have h3 := zip_sum (fun k : ByteArray => 22 * (k.size + 1)) (fun y : Val => 100 * y.w) x.v.ks x.v.l
      rw [sum_mul, sum_mul, sum_add (fun k : ByteArray => k.size) (fun _ => 1), sum_const] at h3
      omega
    · rw [if_neg h8, flat_sum, AV.v_l, List.map_map]
      have h1 : (x.l.map ((fun z : Val => (signV n z).length) ∘ AV.v)).sum ≤ (x.l.map fun y => 100 * y.w).sum := sum_le _ _ fun y hy => ih y hy
      rw [av_kid_w] at h1
      omega
theorem ba5 (a b c d e : Array UInt8) : ({ data := a } : ByteArray) ++ { data := b } ++ { data := c } ++ { data := d } ++ { data := e } = { data := a ++ b ++ c ++ d ++ e } := by
  rw [ba_app, ba_app, ba_app, ba_app]
/-- What is written ahead of a value's parts, as a text. -/
theorem signH_text (x : AV) : ((((((⟨(Lib.itoa x.k).toArray⟩ : ByteArray) ++ ⟨#[58]⟩) ++ ⟨(Lib.itoa (x.t.size : Int)).toArray⟩) ++ ⟨#[58]⟩) ++ x.t) ++ ⟨(Lib.itoa (x.l.length : Int)).toArray⟩ ++ ⟨#[40]⟩).data.toList = signH x.v := by
  rw [show x.t = ⟨x.t.data⟩ from rfl]
  simp only [ba_app, signH, AV.v_k, AV.v_t, AV.v_l, List.length_map]
  simp
end Go.Proofs.YtcpdogjcofkpcaaDoor
