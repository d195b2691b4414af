/-
  inarchlaw14.ValuesTurned answers true. Conditions: the value lies in memory, its weight is bounded; the table of short escapes holds what its initialiser lays.
-/
import Derived.Test.YtdapimjhjnbfdaaDoorVP
import Derived.Test.YtdapimjhjnbfdaaDoorVN
import Derived.Test.YtdapimjhjnbfdaaDoorVE
import Derived.Test.YtdapimjhjnbfdaaDoorVF
import Derived.Deep.QuietTactic
import Derived.BigQuiet
namespace Go.Proofs.YtdapimjhjnbfdaaDoor
open Go.RowKit Go.Sort Go.BigFrame

/-- A region that draws its order, whose operations only read, and whose callees hand back one value and make memory at most: one walk, in the order of the text. -/
theorem wp_region_below {P : Program} {id : Nat} {Q : Exit → Act → World → Prop} {a : Act} {w : World} {l : List Oper} (hm : P.follows .mixedOrders = true) (hB : Region.lexB .any l.toArray = true)
    (h : wpQuiet P l.toArray (fun w' => Below w.heap.size w w') (fun a' => ∀ w', Below w.heap.size w w' → Q .normal a' w') l a) : (Code.region id l.toArray true).wp P Q a w :=
  wp_region_quiet (C := fun w' => Below w.heap.size w w') hm hB ((Below.refl _ _).drew) (by simpa using h)

/-- What one other node does. -/
theorem other_law {v t o : Val} (hv : v.may = true) (ht : t.may = true) (h0 : cmpV 256 v t = 0) (hc : Chg t o) : o.may = true ∧ sameV v o = false ∧ cmpR o v = - cmpR v o ∧ cmpR v o ≠ 0 ∧ (cmpR v o = -1 ∨ cmpR v o = 1) := by
  have ho : o.within 256 = true := chg_within 256 hc (may_within ht)
  have hom : o.may = true := by rw [← Val.may_eq]; exact ho
  have hne : cmpV 256 v o ≠ 0 := fun e => by
    have h1 := (cmpV_ord 256).congr v t o trivial trivial trivial h0
    exact chg_canon 256 hc (may_within ht) ((cmpV_zero 256 t o (may_within ht) ho).1 (h1 ▸ e))
  have e1 : cmpR v o = cmpV 256 v o := by unfold cmpR; rw [if_pos ⟨hv, hom⟩]
  have e2 : cmpR o v = cmpV 256 o v := by unfold cmpR; rw [if_pos ⟨hom, hv⟩]
  refine ⟨hom, ?_, ?_, by rw [e1]; exact hne, ?_⟩
  · unfold sameV; rw [decide_eq_false hne, Bool.and_false]
  · rw [e1, e2]; exact (cmpV_ord 256).anti o v trivial trivial
  · rw [e1]
    rcases sgn_cmp 256 v o with h | h | h
    · exact .inl h
    · exact absurd h hne
    · exact .inr h

set_option maxRecDepth 100000 in
set_option maxHeartbeats 3200000 in
theorem vturned_out (w : World) (x : AV) (by_ at_ : Nat) (hx : Rd w x) (hw : x.w ≤ 1048576) (hS : Shorts w) (hout : 1500 < x.v.w ∨ x.v.may = false) :
    Calls Tryd.prog 5 #[x.val, .int .u8 by_, .int .u16 at_] w (Ret (.bool true) w) := by
  have hb0 := fun o => (Below.refl w.heap.size w).alloc (Nat.le_refl _) o
  have HG := fun W h => Lib.hid (great14_c x W h hw)
  have HM := fun W h => Lib.hid (rmay_c x W h hw)
  have HL := fun W h => Lib.hid (lives14_c W h)
  by_cases hg : 1500 < x.v.w
  · rw [decide_eq_true hg] at HG
    clear hout hg
    go_enter Tryd.func5, Tryd.ntmps5
    go_wp2_with (first
      | (go_at_call 25; refine (HG _ (hx.up (hb0 _))).out.mono ?_; rintro e w2 ⟨rfl, hb⟩
         have hbw := below_via (hb0 _) hb)
      | (go_at_call 27; refine (HL _ (hS.below hbw)).out.mono ?_; rintro e w3 ⟨rfl, hb3⟩))
    go_ret
    exact ⟨rfl, below_via hbw hb3⟩
  · have hm : x.v.may = false := hout.resolve_left hg
    rw [decide_eq_false hg] at HG
    rw [hm] at HM
    clear hout hg hm
    go_enter Tryd.func5, Tryd.ntmps5
    go_wp2_with (first
      | (go_at_call 25; refine (HG _ (hx.up (hb0 _))).out.mono ?_; rintro e w2 ⟨rfl, hb⟩
         have hbw := below_via (hb0 _) hb
         obtain ⟨q0, q1, q2, q3, -, -, -, -⟩ := vbox4 (blk_new hb))
      | (go_at_call 26; refine (HM _ (hx.up hbw)).out.mono ?_; rintro e w4 ⟨rfl, hb4⟩
         have hbw4 := below_via hbw hb4)
      | (go_at_call 27; refine (HL _ (hS.below hbw4)).out.mono ?_; rintro e w3 ⟨rfl, hb3⟩))
    go_ret
    exact ⟨rfl, below_via hbw4 hb3⟩

set_option maxRecDepth 100000 in
set_option maxHeartbeats 3200000 in
theorem vturned_in (w : World) (x : AV) (by_ at_ : Nat) (hby : by_ < 256) (hat : at_ < 65536) (hx : Rd w x) (hw : x.w ≤ 1048576) (hS : Shorts w) (hg : ¬ 1500 < x.v.w) (hm : x.v.may = true) :
    Calls Tryd.prog 5 #[x.val, .int .u8 by_, .int .u16 at_] w (Ret (.bool true) w) := by
  have hb0 := fun o => (Below.refl w.heap.size w).alloc (Nat.le_refl _) o
  have HG := fun W h => Lib.hid (great14_c x W h hw)
  have HM := fun W h => Lib.hid (rmay_c x W h hw)
  have HL := fun W h => Lib.hid (lives14_c W h)
  have HT := fun W h => Lib.hid (turned_c by_ hby 256 x W h hw (may_within hm))
  rw [decide_eq_false hg] at HG
  rw [hm] at HM
  have HMM := Lib.hid hm
  have hg15 : x.v.w ≤ 1500 := by omega
  clear hg hm
  go_enter Tryd.func5, Tryd.ntmps5
  go_wp2_with (first
    | (go_at_call 25; refine (HG _ (hx.up (hb0 _))).out.mono ?_; rintro e w2 ⟨rfl, hb⟩
       have hbw := below_via (hb0 _) hb
       obtain ⟨q0, q1, q2, q3, -, -, -, -⟩ := vbox4 (blk_new hb))
    | (go_at_call 26; refine (HM _ (hx.up hbw)).out.mono ?_; rintro e w4 ⟨rfl, hb4⟩
       have hbw4 := below_via hbw hb4
       have hbk := (hb4.block w.heap.size (by have := hb.size; simp at this; omega)).trans (blk_new hb)
       obtain ⟨p0, p1, p2, p3, -, -, -, -⟩ := vbox4 hbk)
    | (go_at_call 28; refine (HT _ (hx.up hbw4)).out.mono ?_; rintro e w5 ⟨y, rfl, hyv, hyi, hb5⟩
       have hbw5 := below_via hbw4 hb5
       have hbk5 := (hb5.block w.heap.size (by have := hb.size; have := hb4.size; simp at *; omega)).trans hbk
       have hbx5 := hbk5))
  have hyw : y.v.w = x.v.w := by rw [hyv, turned_w]
  have HYW := Lib.hid hyw
  clear hyw
  have hwy : y.w ≤ 1048576 := by show y.v.w ≤ _; rw [hyv, turned_w]; exact hw
  have hmy := turned_may by_ HMM.out
  rw [← hyv] at hmy
  have HMY := Lib.hid hmy
  have H0 := Lib.hid (show cmpV 256 x.v y.v = 0 by rw [hyv]; exact turned_cmp by_ HMM.out)
  have HSA := fun W h1 h2 => Lib.hid (show Calls Tryd.prog 29 #[x.val, y.val] W (Ret (.bool true) W) by
    have := same_c x y W h1 h2 hw hwy; rwa [hyv, turned_same by_ HMM.out] at this)
  have HCM := fun W h1 h2 => Lib.hid (show Calls Tryd.prog 30 #[y.val, x.val] W (Ret (.int .i64 0) W) by
    have := cmp_c y x W h1 h2 hwy hw; rwa [hyv, turned_cmpR by_ HMM.out] at this)
  have HTX := fun W h1 h2 => Lib.hid (text_c x W h1 hw h2)
  have HTY := fun W h1 h2 => Lib.hid (text_c y W h1 hwy h2)
  have HZX := fun W h1 => Lib.hid (size_c W x h1 hw)
  have HZY := fun W h1 => Lib.hid (size_c W y h1 hwy)
  have HDX := fun W h1 => Lib.hid (deep_c W x h1 hw)
  have HDY := fun W h1 => Lib.hid (deep_c W y h1 hwy)
  rw [HMM.out, if_pos rfl] at HZX HDX
  rw [hyv, turned_may by_ HMM.out, if_pos rfl] at HZY HDY
  rw [turned_size by_ HMM.out] at HZY
  rw [turned_deep by_ HMM.out] at HDY
  rw [hyv, turned_text by_ HMM.out] at HTY
  generalize textR x.v = T at *
  generalize x.v.size = zn at *
  generalize x.v.deep = dn at *
  clear hyv hmy HT HG HM
  go_name_world W6 hW6
  have hb6 : Below w5.heap.size w5 W6 := by rw [← hW6]; exact (Below.refl _ _).alloc (Nat.le_refl _) _
  have hz6 : w5.heap.size + 1 = W6.heap.size := by rw [← hW6]; simp
  have hby6 := (show W6.heap[w5.heap.size]? = some (.cells #[.int .u8 y.k, .string y.t, .slice y.la y.l.length y.lc, .slice y.ka y.ks.length y.kc] 41 (0, 0)) by rw [← hW6]; exact heap_alloc_new w5 _)
  clear hW6
  have hlt5 : w.heap.size < w5.heap.size := by have := hb.size; have := hb4.size; have := hb5.size; simp at *; omega
  have hbx6 := (hb6.block w.heap.size hlt5).trans hbk5
  obtain ⟨u0, u1, u2, u3, -, -, -, -⟩ := vbox4 hbx6
  obtain ⟨v0, v1, v2, v3, -, -, -, -⟩ := vbox4 hby6
  have hwW6 := below_via hbw5 hb6
  have hx6 : Rd W6 x := hx.up hwW6
  have hy6 : Rd W6 y := Rd.up (hyi.widen (Nat.zero_le _) (Nat.le_refl _)) hb6
  have hS6 := hS.below hwW6
  have HZ6 := Lib.hid hz6
  have hN : w5.heap.size + 1 ≤ W6.heap.size := by omega
  clear hbk hbk5 hbx6 hby6 hz6 hyi
  go_region_held3 (fun w' => (∀ b o, b < w5.heap.size + 1 → w'.cell? ⟨b, o, none⟩ = W6.cell? ⟨b, o, none⟩) ∧ Below (w5.heap.size + 1) W6 w')
    (first | (with_reducible exact Q8.out) | (with_reducible exact Q7.out) | (with_reducible exact Q6.out) | (with_reducible exact Q5.out) | (with_reducible exact Q4.out) | (with_reducible exact Q3.out) | (with_reducible exact Q2.out) | (with_reducible exact Q1.out) | exact ⟨fun _ _ _ => rfl, (Below.refl _ _).drew⟩)
    (first
      | (go_at_call 29; refine (HSA _ (S.up hx6 HZ6.out (by assumption)) (S.up hy6 HZ6.out (by assumption))).out.mono ?_; rintro e wa ⟨rfl, hba⟩; have Q1 := Lib.hid (s_step hN (by assumption) hba))
      | (go_at_call 30; refine (HCM _ (S.up hy6 HZ6.out (by assumption)) (S.up hx6 HZ6.out (by assumption))).out.mono ?_; rintro e wb ⟨rfl, hbb⟩; have Q2 := Lib.hid (s_step hN (by assumption) hbb))
      | (go_at_call 31; first
          | ((with_reducible refine (HTY _ (S.up hy6 HZ6.out (by assumption)) (hS6.below (by rw [← HZ6.out]; exact And.right (by assumption)))).out.mono ?_); rintro e wc ⟨rfl, hbc⟩; have Q3 := Lib.hid (s_step hN (by assumption) hbc))
          | ((with_reducible refine (HTX _ (S.up hx6 HZ6.out (by assumption)) (hS6.below (by rw [← HZ6.out]; exact And.right (by assumption)))).out.mono ?_); rintro e wd ⟨rfl, hbd⟩; have Q4 := Lib.hid (s_step hN (by assumption) hbd)))
      | (go_at_call 32; first
          | ((with_reducible refine (HZY _ (S.up hy6 HZ6.out (by assumption))).out.mono ?_); rintro e we ⟨rfl, hbe⟩; have Q5 := Lib.hid (s_step hN (by assumption) hbe))
          | ((with_reducible refine (HZX _ (S.up hx6 HZ6.out (by assumption))).out.mono ?_); rintro e wf ⟨rfl, hbf⟩; have Q6 := Lib.hid (s_step hN (by assumption) hbf)))
      | (go_at_call 33; first
          | ((with_reducible refine (HDY _ (S.up hy6 HZ6.out (by assumption))).out.mono ?_); rintro e wg ⟨rfl, hbg⟩; have Q7 := Lib.hid (s_step hN (by assumption) hbg))
          | ((with_reducible refine (HDX _ (S.up hx6 HZ6.out (by assumption))).out.mono ?_); rintro e wh ⟨rfl, hbh⟩; have Q8 := Lib.hid (s_step hN (by assumption) hbh))))
  have h8 := Q8.out
  have hl8 := h8.2.size
  have hl1 : w5.heap.size < wh.heap.size := by omega
  have hl2 : w.heap.size < wh.heap.size := by omega
  have e0 := (h8.1 w5.heap.size 0 (by omega)).trans v0
  have e1 := (h8.1 w5.heap.size 1 (by omega)).trans v1
  have e2 := (h8.1 w5.heap.size 2 (by omega)).trans v2
  have e3 := (h8.1 w5.heap.size 3 (by omega)).trans v3
  have hb8 : Below W6.heap.size W6 wh := by rw [← HZ6.out]; exact h8.2
  have hx8 : Rd wh x := hx6.up hb8
  have hy8 : Rd wh y := hy6.up hb8
  have hw8 : Below w.heap.size w wh := below_via hwW6 hb8
  have hbx8 := (hb8.block w.heap.size (by omega)).trans ((hb6.block w.heap.size hlt5).trans hbx5)
  have hS8 := hS6.below hb8
  have H8 := Lib.hid h8
  clear h8 q0 q1 q2 q3 p0 p1 p2 p3 Q1 Q2 Q3 Q4 Q5 Q6 Q7 Q8 HSA HCM HTX HTY HZX HZY HDX HDY hba hbb hbc hbd hbe hbf hbg hbh
  clear hb hb4 hb5 hbw hbw4 hbw5 hx6 hy6 hS6 hb8
  have hc16 : IntKind.i64.wrap (at_ : Int) = (at_ : Int) := IntWalk.i64_in _ (by omega)
  go_wp2_with fail
  have hbN := (Below.refl wh.heap.size wh).alloc (Nat.le_refl _) (.cells #[.int .i64 (at_ : Int)] 3)
  have hNb := heap_alloc_new wh (.cells #[.int .i64 (at_ : Int)] 3)
  refine (other_c y wh.heap.size at_ (wh.alloc (.cells #[.int .i64 (at_ : Int)] 3)) (by omega) (hy8.blw hbN (Nat.le_refl _)) hwy ((Go.Joins.cell_of_block hNb 0).trans rfl) (Go.Joins.unfrozen_of_block hNb 0)).mono ?_
  rintro e w9 ⟨o, d, n2, rfl, hd, hcp, hcf, hle, hgr⟩
  have hs9 := hgr.size
  rw [World.size_alloc] at hs9
  have blk9 : ∀ q, q < wh.heap.size → w9.heap[q]? = wh.heap[q]? := fun q hq => (hgr.block q (by simp; omega) (fun e => by injection e with e; omega)).trans (heap_alloc_old _ _ _ hq)
  have hb9 : Below wh.heap.size wh w9 := ⟨hgr.os, hgr.tape, hgr.output, by omega, blk9⟩
  have hx9 : Rd w9 x := hx8.up hb9
  have hw9 := below_via hw8 hb9
  have hbx9 := (blk9 w.heap.size hl2).trans hbx8
  have hS9 := hS8.below hb9
  obtain ⟨q0, q1, q2, q3, -, -, -, -⟩ := vbox4 hbx9
  have hl9 : w.heap.size < w9.heap.size := by omega
  clear hgr blk9 hcp hcf hle e0 e1 e2 e3 hbx8 hy8 hx8 hbN hNb H8
  cases d with
  | false =>
    clear hd
    go_wp2_with fail
    go_name_world W10 hW10
    have hb10 : Below w9.heap.size w9 W10 := by rw [← hW10]; exact (Below.refl _ _).alloc (Nat.le_refl _) _
    clear hW10
    have hS10 := hS9.below hb10
    have hw10 := below_via hw9 hb10
    refine wp_region_below (by kernel_rfl) (by kernel_rfl) ?_
    repeat (first
      | go_big_quiet_skip
      | (go_big_quiet_want
         go_big_quiet_op
         first
           | go_big_quiet_on
           | (refine ⟨_, fun _ _ => (by with_reducible rfl), ?_⟩
              go_big_quiet_on)
           | (apply Exists.intro
              refine ⟨fun w' hC => ?_, ?_⟩
              · exact (HL _ (hS10.below hC)).out.mono fun e w2 ⟨he, hb⟩ => ⟨he, hC.trans (hb.mono hC.size)⟩
              go_big_quiet_on)))
    refine wpQuiet_nil ?_
    intro wz hbz
    go_wp2_with fail
    go_ret
    exact ⟨rfl, below_via hw10 hbz⟩
  | true =>
    obtain ⟨hch, hol⟩ := hd rfl
    have hwo : o.w ≤ 1048576 := by
      have := chg_w hch
      have h1 := HYW.out
      show o.v.w ≤ _; omega
    obtain ⟨hmo, hso, hneg, hne, hsg⟩ := other_law HMM.out HMY.out H0.out hch
    have hb10 := (Below.refl w9.heap.size w9).alloc (Nat.le_refl _) (.cells #[.int .u8 o.k, .string o.t, .slice o.la o.l.length o.lc, .slice o.ka o.ks.length o.kc] 41)
    have ho9 : Rd w9 o := hol.rd
    have HSO := fun W h1 h2 => Lib.hid (show Calls Tryd.prog 29 #[x.val, o.val] W (Ret (.bool false) W) by
      have := same_c x o W h1 h2 hw hwo; rwa [hso] at this)
    have HCX := fun W h1 h2 => Lib.hid (cmp_c x o W h1 h2 hw hwo)
    have HCO := fun W h1 h2 => Lib.hid (cmp_c o x W h1 h2 hwo hw)
    rw [hneg] at HCO
    have hr0 : (cmpR x.v o.v != 0) = true := by simp [hne]
    have hwr : IntKind.i64.wrap (cmpR x.v o.v) = cmpR x.v o.v := IntWalk.i64_in _ (by omega)
    generalize cmpR x.v o.v = r at *
    clear hd hch hol hmo hso hneg hne hsg HMM HMY H0 HYW
    go_wp2_with fail
    go_name_world W10 hW10
    have hb10' : Below w9.heap.size w9 W10 := by rw [← hW10]; exact hb10
    have hz10 : w9.heap.size + 1 = W10.heap.size := by rw [← hW10]; simp
    have hbo10 := (show W10.heap[w9.heap.size]? = some (.cells #[.int .u8 o.k, .string o.t, .slice o.la o.l.length o.lc, .slice o.ka o.ks.length o.kc] 41 (0, 0)) by rw [← hW10]; exact heap_alloc_new w9 _)
    clear hW10
    obtain ⟨u0, u1, u2, u3, -, -, -, -⟩ := vbox4 ((hb10'.block w.heap.size hl9).trans hbx9)
    obtain ⟨v0, v1, v2, v3, -, -, -, -⟩ := vbox4 hbo10
    have hw10 := below_via hw9 hb10'
    have hx10 : Rd W10 x := hx9.up hb10'
    have ho10 : Rd W10 o := ho9.up hb10'
    have hS10 := hS9.below hb10'
    have HZ10 := Lib.hid hz10
    have hN10 : w9.heap.size + 1 ≤ W10.heap.size := by omega
    clear q0 q1 q2 q3 hbo10 hz10 hb10 hb10' hx9 ho9 hS9 hbx9
    go_region_held3 (fun w' => (∀ b o, b < w9.heap.size + 1 → w'.cell? ⟨b, o, none⟩ = W10.cell? ⟨b, o, none⟩) ∧ Below (w9.heap.size + 1) W10 w')
      (first | (with_reducible exact Q4.out) | (with_reducible exact Q3.out) | (with_reducible exact Q2.out) | (with_reducible exact Q1.out) | exact ⟨fun _ _ _ => rfl, (Below.refl _ _).drew⟩)
      (first
        | (go_at_call 29; refine (HSO _ (S.up hx10 HZ10.out (by assumption)) (S.up ho10 HZ10.out (by assumption))).out.mono ?_; rintro e wa ⟨rfl, hba⟩; have Q1 := Lib.hid (s_step hN10 (by assumption) hba))
        | (go_at_call 30; first
            | ((with_reducible refine (HCX _ (S.up hx10 HZ10.out (by assumption)) (S.up ho10 HZ10.out (by assumption))).out.mono ?_); rintro e wb ⟨rfl, hbb⟩; have Q2 := Lib.hid (s_step hN10 (by assumption) hbb))
            | ((with_reducible refine (HCO _ (S.up ho10 HZ10.out (by assumption)) (S.up hx10 HZ10.out (by assumption))).out.mono ?_); rintro e wc ⟨rfl, hbc⟩; have Q3 := Lib.hid (s_step hN10 (by assumption) hbc)))
        | (go_at_call 27; refine (HL _ (hS10.below (by rw [← HZ10.out]; exact And.right (by assumption)))).out.mono ?_; rintro e wd ⟨rfl, hbd⟩; have Q4 := Lib.hid (s_step hN10 (by assumption) hbd)))
    all_goals
      go_wp2_with fail
      go_ret
      exact ⟨rfl, s_below (N := w9.heap.size + 1) hw10 (by omega) Q4.out⟩

theorem vturned (w : World) (x : AV) (by_ at_ : Nat) (hby : by_ < 256) (hat : at_ < 65536) (hx : Rd w x) (hw : x.w ≤ 1048576) (hS : Shorts w) :
    Calls Tryd.prog 5 #[x.val, .int .u8 by_, .int .u16 at_] w (Ret (.bool true) w) := by
  by_cases hg : 1500 < x.v.w
  · exact vturned_out w x by_ at_ hx hw hS (.inl hg)
  · cases hm : x.v.may with
    | false => exact vturned_out w x by_ at_ hx hw hS (.inr hm)
    | true => exact vturned_in w x by_ at_ hby hat hx hw hS hg hm
end Go.Proofs.YtdapimjhjnbfdaaDoor
