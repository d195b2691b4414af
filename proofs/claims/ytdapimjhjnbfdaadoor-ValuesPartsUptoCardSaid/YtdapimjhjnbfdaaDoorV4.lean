/-
  values.within and values.May: contracts. Conditions: the tree lies in memory, its weight is bounded.
-/
import Derived.Test.YtdapimjhjnbfdaaDoorV3
namespace Go.Proofs.YtdapimjhjnbfdaaDoor
open Go.RowKit Go.Sort

theorem cell_new2 {w w2 : World} (o : Obj) {v : Value} {t : TypeId} (k : Nat × Nat) (hb : Below ((w.alloc o).alloc (.cells #[v] t k)).heap.size ((w.alloc o).alloc (.cells #[v] t k)) w2) : w2.cell? ⟨w.heap.size + 1, 0, none⟩ = some v := by
  have h := heap_alloc_new (w.alloc o) (.cells #[v] t k)
  rw [World.size_alloc] at h
  have := (hb.block (w.heap.size + 1) (by simp)).trans h
  simp [World.cell?, this]

set_option maxRecDepth 100000 in
set_option maxHeartbeats 3200000 in
theorem within_c : ∀ (n : Nat), n ≤ 256 → ∀ (w : World) (x : AV), Rd w x → x.w ≤ 1048576 → Calls Tryd.prog 78 #[x.val, .int .i64 n] w (Ret (.bool (x.v.within n)) w)
  | 0, _, w, x, hx, hw => by
    have hb0 := fun o => (Below.refl w.heap.size w).alloc (Nat.le_refl _) o
    have hb1 := fun o o' => (hb0 o).alloc (by simp) o'
    have HS := fun W h => Lib.hid (shape_c W x h hw)
    rw [Val.within_0, AV.v_k]
    rcases hsh : x.v.shape with _ | _
    · rw [hsh] at HS
      clear hsh
      go_enter Tryd.func78, Tryd.ntmps78
      go_wp2_with (go_at_call 115; refine (HS _ (hx.up (hb1 _ _))).out.mono ?_; rintro e w2 ⟨rfl, hb⟩)
      go_ret
      exact ⟨rfl, (hb1 _ _).trans (hb.mono (by simp; omega))⟩
    · have hsh' := hsh
      rw [hsh] at HS
      by_cases hk : x.k < 7
      · have hnil : x.l = [] := by
          have := shape_leaf hsh' (by rw [AV.v_k]; exact hk)
          rw [AV.v_l] at this
          simpa using this
        have hlen := Lib.hid (show x.l.length = 0 by simp [hnil])
        have hk' : decide (7 ≤ x.k) = false := by simp; omega
        have HF := fun W a cap p => Lib.hid (fold_b W a cap [] SlE.nil (Nat.zero_le _) p (fun _ => true) (fun _ _ _ h => absurd h List.not_mem_nil))
        have HR := Lib.hid (show (true && decide (x.k < 7)) = true by simp [hk])
        clear hsh hk hnil hsh'
        go_enter Tryd.func78, Tryd.ntmps78
        go_wp2_with (first
          | (go_at_call 115; refine (HS _ (hx.up (hb1 _ _))).out.mono ?_; rintro e w2 ⟨rfl, hb⟩
             obtain ⟨q0, q1, q2, q3, -, -, -, -⟩ := vbox4 (w := w2) (g := w.heap.size) ((hb.block w.heap.size (by simp; omega)).trans ((heap_alloc_old _ _ _ (by simp)).trans (heap_alloc_new w _)))
             have q4 : w2.cell? ⟨w.heap.size + 1, 0, none⟩ = some (.int .i64 0) := cell_new2 _ _ hb)
          | (go_at_call 116; rw [hlen.out]; refine (HF _ _ _ _).out.mono ?_; rintro e w3 ⟨rfl, hb3⟩))
        go_ret
        exact ⟨by rw [HR.out]; simp, (hb1 _ _).trans ((hb.mono (by simp; omega)).trans (hb3.mono (by have := hb.size; simp at this; omega)))⟩
      · have hk' : decide (7 ≤ x.k) = true := by simp; omega
        have HR := Lib.hid (show (true && decide (x.k < 7)) = false by simp [hk])
        clear hsh hk hsh'
        go_enter Tryd.func78, Tryd.ntmps78
        go_wp2_with (first
          | (go_at_call 115; refine (HS _ (hx.up (hb1 _ _))).out.mono ?_; rintro e w2 ⟨rfl, hb⟩
             obtain ⟨q0, q1, q2, q3, -, -, -, -⟩ := vbox4 (w := w2) (g := w.heap.size) ((hb.block w.heap.size (by simp; omega)).trans ((heap_alloc_old _ _ _ (by simp)).trans (heap_alloc_new w _)))
             have q4 : w2.cell? ⟨w.heap.size + 1, 0, none⟩ = some (.int .i64 0) := cell_new2 _ _ hb))
        go_ret
        exact ⟨by rw [HR.out]; rfl, (hb1 _ _).trans (hb.mono (by simp; omega))⟩
  | n + 1, hn, w, x, hx, hw => by
    have hb0 := fun o => (Below.refl w.heap.size w).alloc (Nat.le_refl _) o
    have hb1 := fun o o' => (hb0 o).alloc (by simp) o'
    have HS := fun W h => Lib.hid (shape_c W x h hw)
    rw [Val.within_s, AV.v_l, List.all_map, show ((n + 1 : Nat) : Int) = (n : Int) + 1 from rfl]
    rcases hsh : x.v.shape with _ | _
    · rw [hsh] at HS
      clear hsh
      go_enter Tryd.func78, Tryd.ntmps78
      go_wp2_with (go_at_call 115; refine (HS _ (hx.up (hb1 _ _))).out.mono ?_; rintro e w2 ⟨rfl, hb⟩)
      go_ret
      exact ⟨rfl, (hb1 _ _).trans (hb.mono (by simp; omega))⟩
    · rw [hsh] at HS
      have g0 : (((n : Int) + 1) == 0) = false := by simp; omega
      have hll := x.w_l
      have HF := fun (W : World) (hW : Rd W x) (hp : W.cell? ⟨w.heap.size + 1, 0, none⟩ = some (.int .i64 ((n : Int) + 1))) => Lib.hid (fold_b W x.la x.lc x.l hW.sl (by omega) ⟨w.heap.size + 1, 0, none⟩ (Val.within n ∘ AV.v) (fun b y W' hy hb' =>
        within1 W' b y (w.heap.size + 1) n hn _ ((hb'.cell (p := ⟨w.heap.size + 1, 0, none⟩) (World.block_lt_of_cell? W ⟨w.heap.size + 1, 0, none⟩ hp)).trans hp) (fun W2 hb2 => by
          have := x.w_kid hy
          exact within_c n (by omega) W2 y (((hW.up hb').kid hy).blw' hb2 |>.clamp) (by omega))))
      clear hsh
      go_enter Tryd.func78, Tryd.ntmps78
      go_wp2_with (first
          | (go_at_call 115; refine (HS _ (hx.up (hb1 _ _))).out.mono ?_; rintro e w2 ⟨rfl, hb⟩
             obtain ⟨q0, q1, q2, q3, -, -, -, -⟩ := vbox4 (w := w2) (g := w.heap.size) ((hb.block w.heap.size (by simp; omega)).trans ((heap_alloc_old _ _ _ (by simp)).trans (heap_alloc_new w _)))
             have q4 : w2.cell? ⟨w.heap.size + 1, 0, none⟩ = some (.int .i64 ((n : Int) + 1)) := cell_new2 _ _ hb
             have hbw : Below w.heap.size w w2 := (hb1 _ _).trans (hb.mono (by simp; omega)))
          | (go_at_call 116; refine (HF _ (hx.up hbw) q4).out.mono ?_; rintro e w3 ⟨rfl, hb3⟩))
      go_ret
      exact ⟨by simp, hbw.trans (hb3.mono hbw.size)⟩

theorem may_c (w : World) (x : AV) (hx : Rd w x) (hw : x.w ≤ 1048576) : Calls Tryd.prog 39 #[x.val] w (Ret (.bool x.v.may) w) := by
  have hb0 := fun o => (Below.refl w.heap.size w).alloc (Nat.le_refl _) o
  have HC := fun W h => Lib.hid (within_c 256 (Nat.le_refl _) W x h hw)
  rw [show ((256 : Nat) : Int) = 256 from rfl, Val.may_eq] at HC
  go_enter Tryd.func39, Tryd.ntmps39
  go_wp2_with (go_at_call 78; refine (HC _ (hx.up (hb0 _))).out.mono ?_; rintro e w2 ⟨rfl, hb⟩)
  go_ret
  exact ⟨rfl, (hb0 _).trans (hb.mono (by simp))⟩
end Go.Proofs.YtdapimjhjnbfdaaDoor
