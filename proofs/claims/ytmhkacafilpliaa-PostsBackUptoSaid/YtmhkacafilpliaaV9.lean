/-
  values.compare computes cmpV. Conditions: the trees lie in memory, their weight is bounded, they may be.
-/
import Derived.Test.YtmhkacafilpliaaVA
import Derived.Test.YtmhkacafilpliaaO0
import Derived.Lib.ItoaWalk
namespace Go.Proofs.Ytmhkacafilpliaa
open Go.RowKit Go.Sort

theorem cmpV_head (n : Nat) (a b : Val) (h : orInt [cmpInt a.k b.k, cmpStr a.t b.t] ≠ 0 ∨ a.k < 7) : cmpV n a b = orInt [cmpInt a.k b.k, cmpStr a.t b.t] := by
  cases n with
  | zero => rfl
  | succ n => rw [cmpV]; exact if_pos h

theorem cmpL_map {α β : Type} (g h : α → β) (f : β → β → Int) : ∀ l m : List α, cmpL f (l.map g) (m.map h) = cmpL (fun a b => f (g a) (h b)) l m
  | [], [] => rfl
  | [], _ :: _ => rfl
  | _ :: _, [] => rfl
  | x :: l, y :: m => by simp only [List.map_cons, cmpL, cmpL_map g h f l m]

set_option maxRecDepth 100000 in
set_option maxHeartbeats 3200000 in
theorem compare_head (n : Nat) (w : World) (x y : AV) (_hx : Rd w x) (hc : orInt [cmpInt x.k y.k, cmpStr x.t y.t] ≠ 0 ∨ x.k < 7) :
    Calls Try.prog 58 #[x.val, y.val] w (Ret (.int .i64 (cmpV n x.v y.v)) w) := by
  have hv := Lib.hid (cmpV_head n x.v y.v (by rw [AV.v_k, AV.v_k, AV.v_t, AV.v_t]; exact hc))
  rw [AV.v_k, AV.v_k, AV.v_t, AV.v_t] at hv
  rw [hv.out]
  generalize hR : orInt [cmpInt x.k y.k, cmpStr x.t y.t] = R at *
  have HR := Lib.hid hR
  clear hR hv
  have HO := fun W b h0 h1 => Lib.hid (or_i W (some ⟨b, 0, none⟩) 2 [cmpInt x.k y.k, cmpStr x.t y.t] (lit_i2 W b _ _ h0 h1) (by simp))
  rw [HR.out] at HO
  go_enter Try.func58, Try.ntmps58
  go_wp2_with fail
  go_region_held3 (fun w' => w'.cell? ⟨w.heap.size, 0, none⟩ = some (.int .u8 x.k) ∧ w'.cell? ⟨w.heap.size, 1, none⟩ = some (.string x.t) ∧
    w'.cell? ⟨w.heap.size + 1, 0, none⟩ = some (.int .u8 y.k) ∧ w'.cell? ⟨w.heap.size + 1, 1, none⟩ = some (.string y.t))
    (go_keep)
    (first
      | (go_at_call 76; refine (cmp_kd _ _ _).mono ?_; rintro e w1 ⟨rfl, rfl⟩)
      | (go_at_call 77; refine (cmp_s _ _ _).mono ?_; rintro e w1 ⟨rfl, rfl⟩)
      | (go_at_call 75; refine (HO _ _ (by go_simp) (by go_simp)).out.mono ?_; rintro e w1 ⟨rfl, rfl⟩))
  all_goals
    go_wp2_with fail
  all_goals
    go_ret
    refine ⟨?_, by repeat (first | exact Below.refl _ _ | refine Below.drew ?_ | refine below_drewN ?_ _ | refine Below.alloc ?_ (by simp; try omega) _)⟩
    first | rfl | (simp [*]; done)

set_option maxRecDepth 100000 in
set_option maxHeartbeats 3200000 in
theorem compare_c : ∀ (n : Nat) (w : World) (x y : AV), Rd w x → Rd w y → x.w ≤ 1048576 → y.w ≤ 1048576 → x.v.within n = true → y.v.within n = true →
    Calls Try.prog 58 #[x.val, y.val] w (Ret (.int .i64 (cmpV n x.v y.v)) w) := by
  intro n
  induction n with
  | zero =>
    intro w x y hx hy hwx hwy hwi hwj
    rw [Val.within_0, AV.v_k] at hwi
    simp at hwi
    exact compare_head 0 w x y hx (.inr hwi.2)
  | succ m ih =>
    intro w x y hx hy hwx hwy hwi hwj
    by_cases hc : orInt [cmpInt x.k y.k, cmpStr x.t y.t] ≠ 0 ∨ x.k < 7
    · exact compare_head (m + 1) w x y hx hc
    have hR0 : orInt [cmpInt x.k y.k, cmpStr x.t y.t] = 0 := Decidable.not_not.1 fun h => hc (.inl h)
    have hk7 : ¬ x.k < 7 := fun h => hc (.inr h)
    have hky : x.k = y.k := by
      simp only [orInt] at hR0
      split at hR0
      · rename_i h; unfold cmpInt at h; split at h
        · omega
        · split at h <;> omega
      · rename_i h; exact absurd hR0 h
    rw [Val.within_s, Bool.and_eq_true, AV.v_l, List.all_map] at hwi hwj
    obtain ⟨sx, ax⟩ := hwi
    obtain ⟨sy, ay⟩ := hwj
    have kidx : ∀ z ∈ x.l, z.v.within m = true := fun z hz => List.all_eq_true.1 ax z hz
    have kidy : ∀ z ∈ y.l, z.v.within m = true := fun z hz => List.all_eq_true.1 ay z hz
    have bx := shape_big sx (by rw [AV.v_k]; exact hk7)
    have by_ := shape_big sy (by rw [AV.v_k, ← hky]; exact hk7)
    rw [AV.v_k, AV.v_ks, AV.v_l, List.length_map] at bx by_
    have hlx := x.w_l
    have hly := y.w_l
    have HO := fun W b h0 h1 => Lib.hid (or_i W (some ⟨b, 0, none⟩) 2 [cmpInt x.k y.k, cmpStr x.t y.t] (lit_i2 W b _ _ h0 h1) (by simp))
    rw [hR0] at HO
    have hv : cmpV (m + 1) x.v y.v = if x.k = 7 then cmpL (cmpV m) x.v.l y.v.l else cmpL (fun a b => orInt [cmpStr a.1 b.1, cmpV m a.2 b.2]) x.v.ents y.v.ents := by
      rw [cmpV]
      simp only [AV.v_k, AV.v_t]
      rw [if_neg hc]
    rcases bx with h7 | ⟨h8, hl8, hn8⟩
    · have hcl : cmpL (fun a b : AV => cmpV m a.v b.v) x.l y.l = cmpL (cmpV m) x.v.l y.v.l := by
        rw [AV.v_l, AV.v_l]
        exact (cmpL_map AV.v AV.v (cmpV m) x.l y.l).symm
      rw [hv, if_pos h7, ← hcl]
      have HF := fun (W : World) (hb : Below w.heap.size w W) => Lib.hid (cmpf_v W x.la y.la x.lc y.lc x.l y.l (hx.up hb).sl (hy.up hb).sl (by omega) (by omega) (fun a b => cmpV m a.v b.v) (fun a b W' ha hb' hB =>
        ih W' a b ((((hx.up hb).kid ha).blw' hB).clamp) ((((hy.up hb).kid hb').blw' hB).clamp) (by have := x.w_kid ha; omega) (by have := y.w_kid hb'; omega) (kidx a ha) (kidy b hb')))
      clear hv hcl ih kidx kidy ax ay sx sy by_ hc hk7 hR0
      have e7 : (x.k == 7) = true := by simp [h7]
      have l7 : decide (x.k < 7) = false := by simp [h7]
      clear h7 hky
      go_enter Try.func58, Try.ntmps58
      go_wp2_with fail
      go_region_held3 (fun w' => w'.cell? ⟨w.heap.size, 0, none⟩ = some (.int .u8 x.k) ∧ w'.cell? ⟨w.heap.size, 1, none⟩ = some (.string x.t) ∧
        w'.cell? ⟨w.heap.size + 1, 0, none⟩ = some (.int .u8 y.k) ∧ w'.cell? ⟨w.heap.size + 1, 1, none⟩ = some (.string y.t))
        (go_keep)
        (first
          | (go_at_call 76; refine (cmp_kd _ _ _).mono ?_; rintro e w1 ⟨rfl, rfl⟩)
          | (go_at_call 77; refine (cmp_s _ _ _).mono ?_; rintro e w1 ⟨rfl, rfl⟩)
          | (go_at_call 75; refine (HO _ _ (by go_simp) (by go_simp)).out.mono ?_; rintro e w1 ⟨rfl, rfl⟩))
      all_goals
        go_wp2_with (go_at_call 78; refine (HF _ (by repeat (first | exact Below.refl _ _ | refine Below.drew ?_ | refine below_drewN ?_ _ | refine Below.alloc ?_ (by simp; try omega) _))).out.mono ?_; rintro e w2 ⟨rfl, hb⟩)
        go_ret
        exact ⟨rfl, below_via (w := w) (by repeat (first | exact Below.refl _ _ | refine Below.drew ?_ | refine below_drewN ?_ _ | refine Below.alloc ?_ (by simp; try omega) _)) hb⟩
    · rcases by_ with h7y | ⟨h8y, hl8y, hn8y⟩
      · omega
      rw [hv, if_neg (by omega)]
      have HE1 := fun (W : World) (hb : Below w.heap.size w W) => Lib.hid (entries_c W x (hx.up hb) hwx hl8.symm)
      have HE2 := fun (W : World) (hb : Below w.heap.size w W) => Lib.hid (entries_c W y (hy.up hb) hwy hl8y.symm)
      have mem_x : ∀ (L : List Ent), L.Perm (ents0 x.ks x.l) → ∀ e ∈ L, e.x ∈ x.l := fun L hp e he => by
        have := hp.subset he
        obtain ⟨p, hp, rfl⟩ := List.mem_map.1 this
        exact (List.of_mem_zip (a := p.1) (b := p.2) hp).2
      have mem_y : ∀ (L : List Ent), L.Perm (ents0 y.ks y.l) → ∀ e ∈ L, e.x ∈ y.l := fun L hp e he => by
        have := hp.subset he
        obtain ⟨p, hp, rfl⟩ := List.mem_map.1 this
        exact (List.of_mem_zip (a := p.1) (b := p.2) hp).2
      have HF := fun (W : World) a c a' c' (L L' : List Ent) (hS : SlE Ent.enc 5 W 0 W.heap.size a L) (hS' : SlE Ent.enc 5 W 0 W.heap.size a' L') (hp : L.Perm (ents0 x.ks x.l)) (hp' : L'.Perm (ents0 y.ks y.l))
          (hso : L.Pairwise fun a b => a.key.toList ≤ b.key.toList) (hso' : L'.Pairwise fun a b => a.key.toList ≤ b.key.toList) (hb : Below w.heap.size w W) => Lib.hid (show Calls Try.prog 79 #[.slice a L.length c, .slice a' L'.length c', .func (.func 81) #[] #[]] W (Ret (.int .i64 (cmpL (fun a b => orInt [cmpStr a.1 b.1, cmpV m a.2 b.2]) x.v.ents y.v.ents)) W) by
        rw [← ents_eq x hn8 L hp hso, ← ents_eq y hn8y L' hp' hso', cmpL_map]
        have e1 : L.length = x.ks.length := by rw [hp.length_eq]; simp [ents0, hl8]
        have e2 : L'.length = y.ks.length := by rw [hp'.length_eq]; simp [ents0, hl8y]
        refine cmpf_e W a a' c c' L L' hS hS' (by omega) (by omega) _ (fun e e' W' he he' hB => compare1 W' e e' _ fun W2 hb2 => ?_)
        have m1 := mem_x L hp e he
        have m2 := mem_y L' hp' e' he'
        exact ih W2 e.x e'.x (((((hx.up hb).up hB).kid m1).blw' hb2).clamp) (((((hy.up hb).up hB).kid m2).blw' hb2).clamp) (by have := x.w_kid m1; omega) (by have := y.w_kid m2; omega) (kidx _ m1) (kidy _ m2))
      have l7 : decide (x.k < 7) = false := by simp [h8]
      have e7 : (x.k == 7) = false := by simp [h8]
      clear hv ih kidx kidy ax ay sx sy hc hk7 hR0 mem_x mem_y h8 h8y hky hl8 hl8y
      go_enter Try.func58, Try.ntmps58
      go_wp2_with fail
      go_region_held3 (fun w' => w'.cell? ⟨w.heap.size, 0, none⟩ = some (.int .u8 x.k) ∧ w'.cell? ⟨w.heap.size, 1, none⟩ = some (.string x.t) ∧
        w'.cell? ⟨w.heap.size + 1, 0, none⟩ = some (.int .u8 y.k) ∧ w'.cell? ⟨w.heap.size + 1, 1, none⟩ = some (.string y.t))
        (go_keep)
        (first
          | (go_at_call 76; refine (cmp_kd _ _ _).mono ?_; rintro e w1 ⟨rfl, rfl⟩)
          | (go_at_call 77; refine (cmp_s _ _ _).mono ?_; rintro e w1 ⟨rfl, rfl⟩)
          | (go_at_call 75; refine (HO _ _ (by go_simp) (by go_simp)).out.mono ?_; rintro e w1 ⟨rfl, rfl⟩))
      all_goals go_wp2_with fail
      all_goals
        go_name_world W2 hW2
        have hN : w.heap.size + 2 ≤ W2.heap.size := by rw [← hW2]; simp
        have hB2 : Below w.heap.size w W2 := by rw [← hW2]; exact (by repeat (first | exact Below.refl _ _ | refine Below.drew ?_ | refine below_drewN ?_ _ | refine Below.alloc ?_ (by first | omega | (simp; done) | (simp; omega)) _))
        have a0 : W2.cell? ⟨w.heap.size, 0, none⟩ = some (.int .u8 x.k) := by rw [← hW2]; clear hW2; go_simp
        have a1 : W2.cell? ⟨w.heap.size, 1, none⟩ = some (.string x.t) := by rw [← hW2]; clear hW2; go_simp
        have a2 : W2.cell? ⟨w.heap.size, 2, none⟩ = some (.slice x.la x.l.length x.lc) := by rw [← hW2]; clear hW2; go_simp
        have a3 : W2.cell? ⟨w.heap.size, 3, none⟩ = some (.slice x.ka x.ks.length x.kc) := by rw [← hW2]; clear hW2; go_simp
        have b0 : W2.cell? ⟨w.heap.size + 1, 0, none⟩ = some (.int .u8 y.k) := by rw [← hW2]; clear hW2; go_simp
        have b1 : W2.cell? ⟨w.heap.size + 1, 1, none⟩ = some (.string y.t) := by rw [← hW2]; clear hW2; go_simp
        have b2 : W2.cell? ⟨w.heap.size + 1, 2, none⟩ = some (.slice y.la y.l.length y.lc) := by rw [← hW2]; clear hW2; go_simp
        have b3 : W2.cell? ⟨w.heap.size + 1, 3, none⟩ = some (.slice y.ka y.ks.length y.kc) := by rw [← hW2]; clear hW2; go_simp
        clear hW2
        go_region_held3 (fun w' => (∀ b o, b < w.heap.size + 2 → w'.cell? ⟨b, o, none⟩ = W2.cell? ⟨b, o, none⟩) ∧ Below (w.heap.size + 2) W2 w')
          (first | exact ⟨fun _ _ _ => rfl, (Below.refl _ _).drew⟩ | exact Q3.out | exact Q2.out | exact Q1.out)
          (first
            | (go_at_call 80; first
                | ((with_reducible refine (HE1 _ (s_below (N := w.heap.size + 2) hB2 (by omega) (by assumption))).out.mono ?_); rintro e w5 ⟨A1, c1, L1, rfl, hp1, hso1, hsl1, hb5⟩; have Q1 := Lib.hid (s_step hN (by assumption) hb5))
                | ((with_reducible refine (HE2 _ (s_below (N := w.heap.size + 2) hB2 (by omega) (by assumption))).out.mono ?_); rintro e w6 ⟨A2, c2, L2, rfl, hp2, hso2, hsl2, hb6⟩; have Q2 := Lib.hid (s_step hN (by assumption) hb6)))
            | (go_at_call 79; refine (HF _ A1 c1 A2 c2 L1 L2 (hsl1.up hb6) (hsl2.widen (Nat.zero_le _) (Nat.le_refl _)) hp1 hp2 hso1 hso2 (s_below (N := w.heap.size + 2) hB2 (by omega) (by assumption))).out.mono ?_; rintro e w7 ⟨rfl, hb7⟩; have Q3 := Lib.hid (s_step hN (by assumption) hb7)))
        all_goals
          go_wp2_with fail
          go_ret
          exact ⟨rfl, s_below (N := w.heap.size + 2) hB2 (by omega) (by assumption)⟩
end Go.Proofs.Ytmhkacafilpliaa
