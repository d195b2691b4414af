/-
  The law's lives of chapter 19. No condition.
-/
import Derived.Test.YtmhkacafilpliaaJR
namespace Go.Proofs.Ytmhkacafilpliaa
open Go.RowKit Go.Sort Go.Shelf

theorem four_labs {w : World} {al : Option Addr} (h : SlE Lab.enc 4 w 0 w.heap.size al s9L) : ∃ b off, al = some ⟨b, off, none⟩ ∧ b < w.heap.size ∧ ∀ W : World, W.heap[b]? = w.heap[b]? →
    W.cell? ⟨b, off, none⟩ = some (.bool true) ∧ W.cell? ⟨b, off + 1, none⟩ = some (.string ⟨#[97]⟩) ∧ W.cell? ⟨b, off + 2, none⟩ = some (.int .u8 3) ∧ W.cell? ⟨b, off + 3, none⟩ = some (.string ⟨#[120]⟩) ∧
    W.cell? ⟨b, off + 4, none⟩ = some (.bool false) ∧ W.cell? ⟨b, off + 4 + 1, none⟩ = some (.string ⟨#[]⟩) ∧ W.cell? ⟨b, off + 4 + 2, none⟩ = some (.int .u8 4) ∧ W.cell? ⟨b, off + 4 + 3, none⟩ = some (.string ⟨#[49]⟩) ∧
    W.cell? ⟨b, off + 8, none⟩ = some (.bool true) ∧ W.cell? ⟨b, off + 8 + 1, none⟩ = some (.string ⟨#[98]⟩) ∧ W.cell? ⟨b, off + 8 + 2, none⟩ = some (.int .u8 7) ∧ W.cell? ⟨b, off + 8 + 3, none⟩ = some (.string ⟨#[]⟩) ∧
    W.cell? ⟨b, off + 12, none⟩ = some (.bool false) ∧ W.cell? ⟨b, off + 12 + 1, none⟩ = some (.string ⟨#[]⟩) ∧ W.cell? ⟨b, off + 12 + 2, none⟩ = some (.int .u8 8) ∧ W.cell? ⟨b, off + 12 + 3, none⟩ = some (.string ⟨#[]⟩) := by
  obtain ⟨b, off, e, g1, g2, g3, g4⟩ := h (by decide)
  refine ⟨b, off, e, g3, fun W hW => ?_⟩
  have q : ∀ i x j u, s9L[i]? = some x → x.enc[j]? = some u → W.cell? ⟨b, off + i * 4 + j, none⟩ = some u := fun i x j u hx hu => (World.cell?_of_block (a := ⟨b, off + i * 4 + j, none⟩) hW).trans (g4 i x hx j u hu)
  exact ⟨q 0 _ 0 _ rfl rfl, q 0 _ 1 _ rfl rfl, q 0 _ 2 _ rfl rfl, q 0 _ 3 _ rfl rfl, q 1 _ 0 _ rfl rfl, q 1 _ 1 _ rfl rfl, q 1 _ 2 _ rfl rfl, q 1 _ 3 _ rfl rfl, q 2 _ 0 _ rfl rfl, q 2 _ 1 _ rfl rfl, q 2 _ 2 _ rfl rfl, q 2 _ 3 _ rfl rfl, q 3 _ 0 _ rfl rfl, q 3 _ 1 _ rfl rfl, q 3 _ 2 _ rfl rfl, q 3 _ 3 _ rfl rfl⟩
theorem same_lit {w : World} {a : Option Addr} {n B : Nat} (l : List Int) (h : SlE i64Z 1 w 0 w.heap.size a l) (hn : l.length = n) (hs : l.length ≤ 100) {o : Obj} (ho : o = .cells (l.flatMap i64Z).toArray 3 (0, 0)) (hB : B = w.heap.size) :
    Calls Try.prog 38 #[.slice a n n, .slice (some ⟨B, 0, none⟩) n n] (w.alloc o) (Ret (.bool true) (w.alloc o)) := by
  subst hn hB
  have := samenums_c (w.alloc o) a (some ⟨w.heap.size, 0, none⟩) l.length l.length l l (h.up ((Below.refl _ _).alloc (Nat.le_refl _) _)) (lit_int l ho) (by omega)
  rwa [decide_eq_true rfl] at this
theorem lt_of_blk19 {W : World} {i : Nat} {o : Obj} (hk : W.heap[i]? = some o) : i < W.heap.size := (Array.getElem?_eq_some_iff.1 hk).1
set_option maxRecDepth 100000 in
set_option maxHeartbeats 6400000 in
theorem lives19_c (w : World) : Calls Try.prog 13 #[] w (Ret (.bool true) w) := by
  have heq0 : ∀ W : World, (Op.equalIn 10000 46 (.agg #[.bool true, .string ⟨#[97]⟩, .int .u8 3, .string ⟨#[120]⟩]) (.agg #[.bool true, .string ⟨#[97]⟩, .int .u8 3, .string ⟨#[120]⟩])).run Try.prog W = .ok true W := fun W => (eqi_lab W ⟨true, ⟨#[97]⟩, 3, ⟨#[120]⟩⟩ ⟨true, ⟨#[97]⟩, 3, ⟨#[120]⟩⟩).trans (by rw [decide_eq_true rfl])
  have heq1 : ∀ W : World, (Op.equalIn 10000 46 (.agg #[.bool false, .string ⟨#[]⟩, .int .u8 4, .string ⟨#[49]⟩]) (.agg #[.bool false, .string ⟨#[]⟩, .int .u8 4, .string ⟨#[49]⟩])).run Try.prog W = .ok true W := fun W => (eqi_lab W ⟨false, ⟨#[]⟩, 4, ⟨#[49]⟩⟩ ⟨false, ⟨#[]⟩, 4, ⟨#[49]⟩⟩).trans (by rw [decide_eq_true rfl])
  have heq2 : ∀ W : World, (Op.equalIn 10000 46 (.agg #[.bool true, .string ⟨#[98]⟩, .int .u8 7, .string ⟨#[]⟩]) (.agg #[.bool true, .string ⟨#[98]⟩, .int .u8 7, .string ⟨#[]⟩])).run Try.prog W = .ok true W := fun W => (eqi_lab W ⟨true, ⟨#[98]⟩, 7, ⟨#[]⟩⟩ ⟨true, ⟨#[98]⟩, 7, ⟨#[]⟩⟩).trans (by rw [decide_eq_true rfl])
  have heq3 : ∀ W : World, (Op.equalIn 10000 46 (.agg #[.bool false, .string ⟨#[]⟩, .int .u8 8, .string ⟨#[]⟩]) (.agg #[.bool false, .string ⟨#[]⟩, .int .u8 8, .string ⟨#[]⟩])).run Try.prog W = .ok true W := fun W => (eqi_lab W ⟨false, ⟨#[]⟩, 8, ⟨#[]⟩⟩ ⟨false, ⟨#[]⟩, 8, ⟨#[]⟩⟩).trans (by rw [decide_eq_true rfl])
  go_enter Try.func13, Try.ntmps13
  go_wp2_with (first
    | (go_at_call 38; refine (same_lit [1] (HQ.out.up HW8.out).r rfl (by decide) rfl (by first | rfl | (simp; done))).mono ?_; rintro e w9 ⟨rfl, hb9⟩
       have hw9 := below_via (HW8.out.alloc HW8.out.size _) hb9
       have hbx9 := (hw9.block _ hl2).trans HBX.out
       have hq9 := (hb9.block w3.heap.size (by have := HS8.out; rw [World.size_alloc]; omega)).trans ((Below.heap_alloc _ _ _ (HS8.out)).trans HQX8.out)
       obtain ⟨p09, p19, p29, -, -, -⟩ := box3 hbx9
       obtain ⟨q09, q19, q29, -, -, -⟩ := box3 hq9
       have HS9 := Lib.hid (lt_of_blk19 hq9)
       have hsz9 := lt_of_blk19 hq9
       have HQX9 := Lib.hid hq9
       have HW9 := Lib.hid hw9
       clear hw9 hbx9 hq9 hb9)
    | (go_at_call 38; refine (same_lit [0, 0] (HQ.out.up HW7.out).f rfl (by decide) rfl (by first | rfl | (simp; done))).mono ?_; rintro e w8 ⟨rfl, hb8⟩
       have hw8 := below_via (HW7.out.alloc HW7.out.size _) hb8
       have hbx8 := (hw8.block _ hl2).trans HBX.out
       have hq8 := (hb8.block w3.heap.size (by have := HS7.out; rw [World.size_alloc]; omega)).trans ((Below.heap_alloc _ _ _ (HS7.out)).trans HQX7.out)
       obtain ⟨p08, p18, p28, -, -, -⟩ := box3 hbx8
       obtain ⟨q08, q18, q28, -, -, -⟩ := box3 hq8
       have HS8 := Lib.hid (lt_of_blk19 hq8)
       have hsz8 := lt_of_blk19 hq8
       have HQX8 := Lib.hid hq8
       have HW8 := Lib.hid hw8
       clear hw8 hbx8 hq8 hb8)
    | (go_at_call 38; refine (same_lit [2, 3] (HP3.out.up HW6.out).r rfl (by decide) rfl (by first | rfl | (simp; done))).mono ?_; rintro e w7 ⟨rfl, hb7⟩
       have hw7 := below_via (HW6.out.alloc HW6.out.size _) hb7
       have hbx7 := (hw7.block _ hl2).trans HBX.out
       have hq7 := (hb7.block w3.heap.size (by have := HS6.out; rw [World.size_alloc]; omega)).trans ((Below.heap_alloc _ _ _ (HS6.out)).trans HQX6.out)
       obtain ⟨p07, p17, p27, -, -, -⟩ := box3 hbx7
       obtain ⟨q07, q17, q27, -, -, -⟩ := box3 hq7
       have HS7 := Lib.hid (lt_of_blk19 hq7)
       have hsz7 := lt_of_blk19 hq7
       have HQX7 := Lib.hid hq7
       have HW7 := Lib.hid hw7
       clear hw7 hbx7 hq7 hb7)
    | (have hw5 := (Below.refl w3.heap.size w3).alloc (Nat.le_refl _) (.cells #[.slice al2 2 2, .slice af2 2 2, .slice ar2 1 1] 33)
       have HW5 := Lib.hid hw5
       have HQX5 := Lib.hid (heap_alloc_new w3 (.cells #[.slice al2 2 2, .slice af2 2 2, .slice ar2 1 1] 33))
       have HS5 := Lib.hid (lt_of_blk19 HQX5.out)
       clear hw5
       go_at_call 38; refine (same_lit [0, 1, 1, 0] (HP3.out.up HW5.out).f rfl (by decide) rfl (by first | rfl | (simp; done))).mono ?_; rintro e w6 ⟨rfl, hb6⟩
       have hw6 := below_via (HW5.out.alloc HW5.out.size _) hb6
       have hbx6 := (hw6.block _ hl2).trans HBX.out
       have hq6 := (hb6.block w3.heap.size (by have := HS5.out; rw [World.size_alloc]; omega)).trans ((Below.heap_alloc _ _ _ (HS5.out)).trans HQX5.out)
       obtain ⟨p06, p16, p26, -, -, -⟩ := box3 hbx6
       obtain ⟨q06, q16, q26, -, -, -⟩ := box3 hq6
       have HS6 := Lib.hid (lt_of_blk19 hq6)
       have hsz6 := lt_of_blk19 hq6
       have HQX6 := Lib.hid hq6
       have HW6 := Lib.hid hw6
       clear hw6 hbx6 hq6 hb6)
    | (go_at_call 19; refine (small_part _ al af ar (hp.up ((Below.refl _ _).alloc (Nat.le_refl _) _))).mono ?_; rintro e w3 ⟨al2, af2, ar2, rfl, hq, hb3⟩
       have HB3 := Lib.hid hb3
       have HQ := Lib.hid hq
       have hp3 := ((hp.up ((Below.refl w2.heap.size w2).alloc (Nat.le_refl _) _)).up hb3)
       have HP3 := Lib.hid hp3
       have hbx := (hb3.block w2.heap.size (by simp)).trans (heap_alloc_new w2 _)
       have HBX := Lib.hid hbx
       have hl2 : w2.heap.size < w3.heap.size := lt_of_blk19 hbx
       obtain ⟨p0, p1, p2, -, -, -⟩ := box3 hbx
       obtain ⟨b, off, ea, hbl, hcl⟩ := four_labs hp3.l
       obtain ⟨c0, c1, c2, c3, c4, c5, c6, c7, c8, c9, c10, c11, c12, c13, c14, c15⟩ := hcl w3 rfl
       have ea' : al = _ := ea
       subst ea'
       clear hb3 hq hbx hp hp3 hcl ea)
    | (go_at_call 15; refine (small_of _ y hy hv).mono ?_; rintro e w2 ⟨al, af, ar, rfl, hp, hb2⟩; have HB2 := Lib.hid (below_via HB1.out hb2); clear hb2 hy hv)
    | (go_at_call 42; refine (small19_c _).mono ?_; rintro e w1 ⟨y, rfl, hv, hy, hb1⟩; have HB1 := Lib.hid hb1; have hy := AV.In.widen hy (Nat.zero_le _) (Nat.le_refl _); clear hb1))
  go_ret
  exact ⟨rfl, below_via (below_via (HB2.out.alloc HB2.out.size _) HB3.out) HW9.out⟩
end Go.Proofs.Ytmhkacafilpliaa
