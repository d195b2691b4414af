/-
  The law's example of chapter 14: lives; and what turning keys leaves: same, order, text, size, depth, weight. Condition: the table of short escapes holds what its initialiser lays.
-/
import Derived.Test.YtjihepdjcbpgoaaGreatDoorVO
import Derived.Lib.ItoaWalk
namespace Go.Proofs.YtjihepdjcbpgoaaGreatDoor
open Go.RowKit Go.Sort

theorem may_within {v : Val} (h : v.may = true) : v.within 256 = true := by rw [Val.may_eq]; exact h
theorem turned_may (by_ : Nat) {v : Val} (h : v.may = true) : (v.turned by_).may = true := by rw [← Val.may_eq]; exact turned_within by_ 256 v (may_within h)
theorem turned_cmp (by_ : Nat) {v : Val} (h : v.may = true) : cmpV 256 v (v.turned by_) = 0 :=
  (cmpV_zero 256 v _ (may_within h) (turned_within by_ 256 v (may_within h))).2 (canon_turned by_ 256 v (may_within h)).symm
theorem turned_same (by_ : Nat) {v : Val} (h : v.may = true) : sameV v (v.turned by_) = true := by
  unfold sameV; rw [h, turned_may by_ h, turned_cmp by_ h]; rfl
theorem turned_cmpR (by_ : Nat) {v : Val} (h : v.may = true) : cmpR (v.turned by_) v = 0 := by
  unfold cmpR
  rw [if_pos ⟨turned_may by_ h, h⟩, (cmpV_ord 256).anti _ _ trivial trivial, turned_cmp by_ h]; rfl
theorem turned_text (by_ : Nat) {v : Val} (h : v.may = true) : textR (v.turned by_) = textR v := by
  unfold textR
  rw [if_pos h, if_pos (turned_may by_ h)]
  exact text_canon 256 _ _ (turned_within by_ 256 v (may_within h)) (may_within h) (canon_turned by_ 256 v (may_within h))
theorem turned_size (by_ : Nat) {v : Val} (h : v.may = true) : (v.turned by_).size = v.size := by
  rw [← canon_size 256 _ (turned_within by_ 256 v (may_within h)), canon_turned by_ 256 v (may_within h), canon_size 256 v (may_within h)]
theorem turned_deep (by_ : Nat) {v : Val} (h : v.may = true) : (v.turned by_).deep = v.deep := by
  rw [← canon_deep 256 _ (turned_within by_ 256 v (may_within h)), canon_turned by_ 256 v (may_within h), canon_deep 256 v (may_within h)]
theorem turned_w (by_ : Nat) : ∀ v : Val, (v.turned by_).w = v.w := Val.ind fun v ih => by
  have h1 := ((turned_l by_ v).map Val.w).sum_nat
  have h2 := ((turned_ks by_ v).map (·.size)).sum_nat
  have h3 := (turned_ks by_ v).length_eq
  have h4 : (v.l.map (Val.turned by_)).map Val.w = v.l.map Val.w := by
    rw [List.map_map]; exact List.map_congr_left fun y hy => ih y hy
  rw [Val.w_eq, Val.w_eq v, turned_t, h1, h2, h3, h4]

theorem nil_may : Val.may ⟨0, ⟨#[]⟩, [], []⟩ = true := by
  rw [← Val.may_eq, plain_within]; simp [Val.deepR_eq, Val.plain_eq, Val.shape, ByteArray.toList_eq]
theorem true_may : Val.may ⟨1, ⟨#[116, 114, 117, 101]⟩, [], []⟩ = true := by
  rw [← Val.may_eq, plain_within]; simp [Val.deepR_eq, Val.plain_eq, Val.shape, ByteArray.toList_eq]
theorem nil_true : cmpR ⟨0, ⟨#[]⟩, [], []⟩ ⟨1, ⟨#[116, 114, 117, 101]⟩, [], []⟩ = -1 := by
  unfold cmpR
  rw [if_pos ⟨nil_may, true_may⟩, cmpV_head 256 _ _ (.inr (by decide))]
  simp [orInt, cmpInt]
theorem small_w : smallV.w ≤ 1500 := by simp [Val.w_eq, smallV]; decide

theorem S.up {N : Nat} {W2 w' : World} {y : AV} (hy : Rd W2 y) (hN : N = W2.heap.size) (h : (∀ b o, b < N → w'.cell? ⟨b, o, none⟩ = W2.cell? ⟨b, o, none⟩) ∧ Below N W2 w') : Rd w' y := hy.up (by rw [← hN]; exact h.2)

set_option maxRecDepth 100000 in
set_option maxHeartbeats 3200000 in
theorem lives14_c (w : World) (hS : Shorts w) : Calls Tryz.prog 10 #[] w (Ret (.bool true) w) := by
  have HSM := Lib.hid (small_c w)
  go_enter Tryz.func10, Tryz.ntmps10
  go_wp2_with (first | (go_at_call 46; refine HSM.out.mono ?_; rintro e w1 ⟨y, rfl, hyv, hyi, hb1⟩))
  have hwy : y.w ≤ 1048576 := by show y.v.w ≤ _; rw [hyv]; exact Nat.le_trans small_w (by decide)
  have HM := fun W h => Lib.hid (may_c W y h hwy)
  have HZ := fun W h => Lib.hid (show Calls Tryz.prog 18 #[y.val] W (Ret (.int .i64 5) W) by have := size_c W y h hwy; rw [hyv, small_may, if_pos rfl, small_size] at this; exact this)
  have HD := fun W h => Lib.hid (show Calls Tryz.prog 20 #[y.val] W (Ret (.int .i64 2) W) by have := deep_c W y h hwy; rw [hyv, small_may, if_pos rfl, small_deep] at this; exact this)
  have HT := fun W h hs => Lib.hid (text_c y W h hwy hs)
  have HR := fun W h => Lib.hid (show Calls Tryz.prog 47 #[y.val, .int .u8 0] W (TurnPost 0 y.v W) from turned_c 0 (by decide) 256 y W h hwy (by rw [Val.may_eq, hyv]; exact small_may))
  rw [hyv, small_may] at HM
  rw [hyv] at HT HR
  rw [small_text] at HT
  have HE := fun W (z : AV) h1 h2 (hz : z.v = smallV.turned 0) => Lib.hid (show Calls Tryz.prog 14 #[y.val, z.val] W (Ret (.bool true) W) by
    have := same_c y z W h1 h2 hwy (by show z.v.w ≤ _; rw [hz, turned_w]; exact Nat.le_trans small_w (by decide))
    rwa [hyv, hz, turned_same 0 small_may] at this)
  have HQ := fun W => Lib.hid (show Calls Tryz.prog 16 #[.agg #[.int .u8 0, .string ⟨#[]⟩, .slice none 0 0, .slice none 0 0], .agg #[.int .u8 1, .string ⟨#[116, 114, 117, 101]⟩, .slice none 0 0, .slice none 0 0]] W (Ret (.int .i64 (-1)) W) by
    have := cmp_c ⟨0, ⟨#[]⟩, none, 0, [], none, 0, []⟩ ⟨1, ⟨#[116, 114, 117, 101]⟩, none, 0, [], none, 0, []⟩ W (leaf_in _ _ (by simp)) (leaf_in _ _ (by simp)) (by show Val.w _ ≤ _; rw [AV.v_eq, Val.w_eq]; decide) (by show Val.w _ ≤ _; rw [AV.v_eq, Val.w_eq]; decide)
    rw [AV.v_eq, AV.v_eq] at this
    simp only [List.map_nil, nil_true] at this
    exact this)
  go_name_world W2 hW2
  have hbW : Below w1.heap.size w1 W2 := by rw [← hW2]; exact (Below.refl _ _).alloc (Nat.le_refl _) _
  have hz2 : w1.heap.size + 1 = W2.heap.size := by rw [← hW2]; simp
  have hbx := (show W2.heap[w1.heap.size]? = some (.cells #[.int .u8 y.k, .string y.t, .slice y.la y.l.length y.lc, .slice y.ka y.ks.length y.kc] 26 (0, 0)) by rw [← hW2]; exact heap_alloc_new w1 _)
  clear hW2
  have hy2 : Rd W2 y := Rd.up (hyi.widen (Nat.zero_le _) (Nat.le_refl _)) hbW
  have hS2 := (hS.below hb1).below hbW
  obtain ⟨q0, q1, q2, q3, -, -, -, -⟩ := vbox4 hbx
  have hN : w1.heap.size + 1 ≤ W2.heap.size := by omega
  have hwW : Below w.heap.size w W2 := below_via hb1 hbW
  have HZ2 := Lib.hid hz2
  clear hbx HSM hyi hbW hz2
  go_region_held3 (fun w' => (∀ b o, b < w1.heap.size + 1 → w'.cell? ⟨b, o, none⟩ = W2.cell? ⟨b, o, none⟩) ∧ Below (w1.heap.size + 1) W2 w')
    (first | (with_reducible exact Q7.out) | (with_reducible exact Q6.out) | (with_reducible exact Q5.out) | (with_reducible exact Q4.out) | (with_reducible exact Q3.out) | (with_reducible exact Q2.out) | (with_reducible exact Q1.out) | exact ⟨fun _ _ _ => rfl, (Below.refl _ _).drew⟩)
    (first
      | (go_at_call 12; refine (HM _ (S.up hy2 HZ2.out (by assumption))).out.mono ?_; rintro e w2 ⟨rfl, hb2⟩; have Q1 := Lib.hid (s_step hN (by assumption) hb2))
      | (go_at_call 18; refine (HZ _ (S.up hy2 HZ2.out (by assumption))).out.mono ?_; rintro e w3 ⟨rfl, hb3⟩; have Q2 := Lib.hid (s_step hN (by assumption) hb3))
      | (go_at_call 20; refine (HD _ (S.up hy2 HZ2.out (by assumption))).out.mono ?_; rintro e w4 ⟨rfl, hb4⟩; have Q3 := Lib.hid (s_step hN (by assumption) hb4))
      | (go_at_call 22; refine (HT _ (S.up hy2 HZ2.out (by assumption)) (hS2.below (by rw [← HZ2.out]; exact And.right (by assumption)))).out.mono ?_; rintro e w5 ⟨rfl, hb5⟩; have Q4 := Lib.hid (s_step hN (by assumption) hb5))
      | (go_at_call 47; refine (HR _ (S.up hy2 HZ2.out (by assumption))).out.mono ?_; rintro e w6 ⟨z, rfl, hzv, hzi, hb6⟩; have Q5 := Lib.hid (s_step hN (by assumption) hb6))
      | (go_at_call 14; refine (HE _ z (S.up hy2 HZ2.out (by assumption)) (hzi.widen (Nat.zero_le _) (Nat.le_refl _)) hzv).out.mono ?_; rintro e w7 ⟨rfl, hb7⟩; have Q6 := Lib.hid (s_step hN (by assumption) hb7))
      | (go_at_call 16; refine (HQ _).out.mono ?_; rintro e w8 ⟨rfl, hb8⟩; have Q7 := Lib.hid (s_step hN (by assumption) hb8)))
  all_goals
    go_wp2_with fail
    go_ret
    exact ⟨rfl, s_below (N := w1.heap.size + 1) hwW (by have := hb1.size; omega) (by assumption)⟩
end Go.Proofs.YtjihepdjcbpgoaaGreatDoor
