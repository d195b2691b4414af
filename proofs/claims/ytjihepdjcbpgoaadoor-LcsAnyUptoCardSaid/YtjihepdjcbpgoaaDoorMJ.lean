/-
  inarchlaw22.lives: a contract. Condition: strconv's table of powers holds what its initialiser lays.
-/
import Derived.Test.YtjihepdjcbpgoaaDoorMI
namespace Go.Proofs.YtjihepdjcbpgoaaDoor
open Go.RowKit Go.Sort

def fB (n : Nat) : ByteArray := ⟨#[UInt8.ofNat n]⟩
theorem texts_bytes {s : ByteArray} {X : List Nat} (h : ((List.range s.size).map fun i => s.extract i (i + 1)) = X.map fB) : textsV s = (X.map fB).map oneV := by
  rw [← h, List.map_map]; rfl
theorem ex_labs {X Y : List Nat} {s t : ByteArray} (hs : ((List.range s.size).map fun i => s.extract i (i + 1)) = X.map fB) (ht : ((List.range t.size).map fun i => t.extract i (i + 1)) = Y.map fB) (hi : ∀ x ∈ X, ∀ y ∈ Y, fB x = fB y → x = y) : SameM X Y (labs 0 (textsV s)) (labs 1 (textsV t)) := by
  have h := one_labs (X.map fB) (Y.map fB)
  rw [← texts_bytes hs, ← texts_bytes ht] at h
  obtain ⟨h1, h2, h3⟩ := h
  refine ⟨by rw [← h1]; simp, by rw [← h2]; simp, fun i k x y x' y' g1 g2 g3 g4 => ?_⟩
  rw [← h3 i k (fB x) (fB y) x' y' (by rw [List.getElem?_map, g1]; rfl) (by rw [List.getElem?_map, g2]; rfl) g3 g4]
  exact ⟨fun e => by rw [e], hi x (List.mem_of_getElem? g1) y (List.mem_of_getElem? g2)⟩
def tA : ByteArray := ⟨#[97, 98, 99, 97]⟩
def tB : ByteArray := ⟨#[99, 97, 98, 97]⟩
def tC : ByteArray := ⟨#[120, 121]⟩
def tD : ByteArray := ⟨#[121, 120]⟩
def tE : ByteArray := ⟨#[49, 50, 51]⟩
def tF : ByteArray := ⟨#[50, 51, 52]⟩
theorem ex1 : Early (labs 0 (textsV tA)) (labs 1 (textsV tB)) 0 0 [(0, 1), (1, 2), (3, 3)] := (ex_labs (by decide) (by decide) (by decide)).early ex_pairs
theorem ex2 : Early (labs 0 (textsV tC)) (labs 1 (textsV tD)) 0 0 [(0, 1)] := (ex_labs (by decide) (by decide) (by decide)).early ex_pairs2
theorem ex3 : lcsL (labs 0 (textsV tE)) (labs 1 (textsV tF)) = 2 := by
  have h := (ex_labs (X := [49, 50, 51]) (Y := [50, 51, 52]) (s := tE) (t := tF) (by decide) (by decide) (by decide)).T 0 0
  exact Eq.trans h.symm ex_long
theorem pr_sl {w : World} {base : Nat} {G : Nat} {P : List (Nat × Nat)} (h : OwnPr w base (.slice (some ⟨G, 0, none⟩) P.length P.length) P) : SlE prE 2 w 0 w.heap.size (some ⟨G, 0, none⟩) P := (own_sl (enc := prE) (size := 2) prE_len h).widen (Nat.zero_le _) (Nat.le_refl _)

set_option maxRecDepth 100000 in
set_option maxHeartbeats 3200000 in
theorem lives22_c (w : World) (hP : Pow w) : Calls Tryd.prog 9 #[] w (Ret (.bool true) w) := by
  go_enter Tryd.func9, Tryd.ntmps9
  go_wp2_with (first
    | (have kq6 := k5; go_at_call 27; refine (texts_c _ tF (by decide)).mono ?_; rintro e w8 ⟨y6, rfl, hv6, hr6, hb8⟩; have k6 := trivial)
    | (have kq5 := k4; go_at_call 27; refine (texts_c _ tE (by decide)).mono ?_; rintro e w7 ⟨y5, rfl, hv5, hr5, hb7⟩; have k5 := trivial)
    | (have kq4 := k3; go_at_call 27; refine (texts_c _ tD (by decide)).mono ?_; rintro e w5 ⟨y4, rfl, hv4, hr4, hb5⟩; have k4 := trivial)
    | (have kq3 := k2; go_at_call 27; refine (texts_c _ tC (by decide)).mono ?_; rintro e w4 ⟨y3, rfl, hv3, hr3, hb4⟩; have k3 := trivial)
    | (have kq2 := k1; go_at_call 27; refine (texts_c _ tB (by decide)).mono ?_; rintro e w2 ⟨y2, rfl, hv2, hr2, hb2⟩; have k2 := trivial)
    | (go_at_call 27; refine (texts_c _ tA (by decide)).mono ?_; rintro e w1 ⟨y1, rfl, hv1, hr1, hb1⟩; have k1 := trivial)
    | (have kq7 := k4; go_at_call 11; refine (pairs_c _ y3 y4 (hr3.up hb5) hr4 ((((hP.below hb1).below hb2).below hb3 |>.below hb4).below hb5)).mono ?_; rintro e w6 ⟨G2, P2, rfl, he2, ho2, hb6⟩
       have HV2 := Lib.hid (And.intro hv3 hv4)
       rw [hv3, hv4] at he2
       obtain rfl := early_one he2 ex2
       clear he2)
    | (go_at_call 11; refine (pairs_c _ y1 y2 (hr1.up hb2) hr2 ((hP.below hb1).below hb2)).mono ?_; rintro e w3 ⟨G1, P1, rfl, he1, ho1, hb3⟩
       rw [hv1, hv2] at he1
       obtain rfl := early_one he1 ex1
       clear he1)
    | (go_at_call 13; refine (long_c _ y5 y6 (hr5.up hb8) hr6 ((((((hP.below hb1).below hb2).below hb3 |>.below hb4).below hb5).below hb6 |>.below hb7).below hb8)).mono ?_; rintro e w9 ⟨rfl, hb9⟩
       have hl3 := ex3
       rw [← hv5, ← hv6] at hl3
       rw [hl3])
    | (have kq8 := s1; go_at_call 15
       refine (samepr_c _ (some ⟨G2, 0, none⟩) (some ⟨w10.heap.size, 0, none⟩) 1 1 [(0, 1)] [(0, 1)] ?_ ?_ (by simp) (by simp)).mono ?_
       · exact ((((((pr_sl ho2).up hb7).up hb8).up hb9).up (((Below.refl _ _).alloc (Nat.le_refl _) _).trans (hb10.mono (by simp)))).up ((Below.refl _ _).alloc (Nat.le_refl _) _))
       · exact (lit_sl (enc := prE) (size := 2) (l := [(0, 1)]) (t := 35) (fr := (0, 0)) prE_len (heap_alloc_new w10 _)).widen (Nat.zero_le _) (by simp)
       rintro e w11 ⟨rfl, hb11⟩)
    | (go_at_call 15
       refine (samepr_c _ (some ⟨G1, 0, none⟩) (some ⟨w9.heap.size, 0, none⟩) 3 3 [(0, 1), (1, 2), (3, 3)] [(0, 1), (1, 2), (3, 3)] ?_ ?_ (by simp) (by simp)).mono ?_
       · exact ((((((((pr_sl ho1).up hb4).up hb5).up hb6).up hb7).up hb8).up hb9).up ((Below.refl _ _).alloc (Nat.le_refl _) _))
       · exact (lit_sl (enc := prE) (size := 2) (l := [(0, 1), (1, 2), (3, 3)]) (t := 35) (fr := (0, 0)) prE_len (heap_alloc_new w9 _)).widen (Nat.zero_le _) (by simp)
       rintro e w10 ⟨rfl, hb10⟩; have s1 := trivial))
  go_ret
  have b1 := below_via (below_via (below_via hb1 hb2) hb3) hb4
  have b2 := below_via (below_via (below_via b1 hb5) hb6) hb7
  have b3 := below_via (below_via b2 hb8) hb9
  have b4 := below_via b3 (((Below.refl _ _).alloc (Nat.le_refl _) _).trans (hb10.mono (by simp)))
  exact ⟨rfl, below_via b4 (((Below.refl _ _).alloc (Nat.le_refl _) _).trans (hb11.mono (by simp)))⟩
end Go.Proofs.YtjihepdjcbpgoaaDoor
