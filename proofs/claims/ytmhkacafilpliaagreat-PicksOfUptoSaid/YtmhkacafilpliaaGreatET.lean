/-
  The examples of chapter 21. No condition. (Printed by gen_et.py.)
-/
import Derived.Test.YtmhkacafilpliaaGreatES
import Derived.Test.YtmhkacafilpliaaGreatEN
namespace Go.Proofs.YtmhkacafilpliaaGreat
open Go.RowKit Go.Sort Go.Shelf Go.BigFrame

theorem tabV_w (ks : List ByteArray) (l : List Val) : (tabV ks l).w = 1 + (ks.map (·.size)).sum + ks.length + (l.map Val.w).sum := by
  rw [Val.w_eq]
  show 1 + 0 + ks.length + (ks.map (·.size)).sum + (l.map Val.w).sum = _
  omega
theorem wts : (∀ l, (listV l).w = 1 + (l.map Val.w).sum) ∧ (∀ s, (numV s).w = 1 + s.size) ∧ (∀ ks l, (tabV ks l).w = 1 + (ks.map (·.size)).sum + ks.length + (l.map Val.w).sum) ∧ (∀ (a : Val) (l : List Val), (a :: l).map Val.w = a.w :: l.map Val.w) ∧ ([] : List Val).map Val.w = [] ∧ (∀ (a : Nat) (l : List Nat), (a :: l).sum = a + l.sum) ∧ ([] : List Nat).sum = 0 :=
  ⟨listV_w, numV_w, tabV_w, fun _ _ => rfl, rfl, fun _ _ => List.sum_cons, rfl⟩
/-- A row of strings in a block of its own. -/
def GotK (ks : List ByteArray) (v : Value) (w : World) : Prop := ∃ b : Nat, v = .slice (some ⟨b, 0, none⟩) ks.length ks.length ∧ w.heap[b]? = some (.cells (ks.flatMap strE).toArray 9 (0, 0))
theorem stab_K (ks : List ByteArray) : Stab (GotK ks) := fun _ _ _ hb ⟨b, h1, h2⟩ => ⟨b, h1, blk_via hb h2⟩
theorem gotk_up {ks : List ByteArray} {v : Value} {w w' : World} (h : GotK ks v w) (hb : Below w.heap.size w w') : GotK ks v w' := stab_K ks v w w' hb h
theorem gots_up {l : List Val} {v : Value} {w w' : World} (h : GotS l v w) (hb : Below w.heap.size w w') : GotS l v w' := stab_S l v w w' hb h
theorem gotk_new (w : World) (ks : List ByteArray) : GotK ks (.slice (some ⟨w.heap.size, 0, none⟩) ks.length ks.length) (w.alloc (.cells (ks.flatMap strE).toArray 9)) := ⟨_, rfl, heap_alloc_new _ _⟩
theorem list21_s {w : World} {b : Nat} {l : List Val} {ys : List AV} (hl : ys.map AV.v = l) (hB : w.heap[b]? = some (.cells (ys.flatMap AV.enc).toArray 26 (0, 0))) (hr : ∀ y ∈ ys, Rd w y) : Calls Tryz.prog 29 #[.slice (some ⟨b, 0, none⟩) l.length l.length] w (GotV (listV l) w) := by
  have := list21_c w b l.length ys hB (by rw [← hl, List.length_map]) hr
  rwa [hl] at this
theorem tab_s {w : World} {k b : Nat} {ks : List ByteArray} {l : List Val} {ys : List AV} (hK : w.heap[k]? = some (.cells (ks.flatMap strE).toArray 9 (0, 0))) (hl : ys.map AV.v = l) (hB : w.heap[b]? = some (.cells (ys.flatMap AV.enc).toArray 26 (0, 0))) (hr : ∀ y ∈ ys, Rd w y) :
    Calls Tryz.prog 30 #[.slice (some ⟨k, 0, none⟩) ks.length ks.length, .slice (some ⟨b, 0, none⟩) l.length l.length] w (GotV (tabV ks l) w) := by
  have := table21_c w k b l.length ks.length ks ys hK hB rfl (by rw [← hl, List.length_map]) hr
  rwa [hl] at this
theorem are_v {w : World} {x y : AV} {a b : Val} {k : Int} {z : Bool} (h : nearI a b = k) (hz : (k != -1) = z) (ha : x.v = a) (hb : y.v = b) (hwa : a.w ≤ 1048576) (hwb : b.w ≤ 1048576) (hx : Rd w x) (hy : Rd w y) : Calls Tryz.prog 12 #[x.val, y.val] w (Ret (.bool z) w) := by
  have := are21_c w x y hx hy (by show x.v.w ≤ _; rw [ha]; exact hwa) (by show y.v.w ≤ _; rw [hb]; exact hwb)
  rwa [ha, hb, h, hz] at this
theorem nearest_s {w : World} {x : AV} {a : Val} {l : List Val} {b : Nat} {ys : List AV} {k : Int} (h : (nearP a l l.length).1 = k) (ha : x.v = a) (hwa : a.w ≤ 1048576) (hx : Rd w x) (hl : ys.map AV.v = l) (hB : w.heap[b]? = some (.cells (ys.flatMap AV.enc).toArray 26 (0, 0))) (hr : ∀ y ∈ ys, Rd w y) (hwl : l.length ≤ 1048576 ∧ ∀ u ∈ l, u.w ≤ 1048576) :
    Calls Tryz.prog 10 #[x.val, .slice (some ⟨b, 0, none⟩) l.length l.length] w (Ret (.int .i64 k) w) := by
  have hsl : SlE AV.enc 4 w 0 w.heap.size (some ⟨b, 0, none⟩) ys := (lit_sl (enc := AV.enc) (size := 4) AV.enc_len hB).widen (Nat.zero_le _) (Array.getElem?_eq_some_iff.1 hB).1
  have hlen : ys.length = l.length := by rw [← hl, List.length_map]
  have := nearest_c w x (some ⟨b, 0, none⟩) l.length ys hsl (by rw [hlen]; exact hwl.1) hx (by show x.v.w ≤ _; rw [ha]; exact hwa) (fun y hy => ⟨hr y hy, by show y.v.w ≤ _; exact hwl.2 _ (by rw [← hl]; exact List.mem_map.2 ⟨y, hy, rfl⟩)⟩)
  rwa [hl, ha, hlen, h] at this
theorem near21_0 : (nearP (listV [numV ⟨#[49]⟩, numV ⟨#[50]⟩, numV ⟨#[51]⟩]) ([listV [numV ⟨#[49]⟩, numV ⟨#[50]⟩], listV [numV ⟨#[57]⟩], listV [numV ⟨#[49]⟩, numV ⟨#[50]⟩, numV ⟨#[52]⟩]] : List Val) ([listV [numV ⟨#[49]⟩, numV ⟨#[50]⟩], listV [numV ⟨#[57]⟩], listV [numV ⟨#[49]⟩, numV ⟨#[50]⟩, numV ⟨#[52]⟩]] : List Val).length).1 = 0 := by
  simp only [List.length_cons, List.length_nil, nearP, List.getElem?_cons_zero, List.getElem?_cons_succ, near_6, near_7, near_8]
  rfl
theorem row21_w : ([listV [numV ⟨#[49]⟩, numV ⟨#[50]⟩], listV [numV ⟨#[57]⟩], listV [numV ⟨#[49]⟩, numV ⟨#[50]⟩, numV ⟨#[52]⟩]] : List Val).length ≤ 1048576 ∧ ∀ u ∈ ([listV [numV ⟨#[49]⟩, numV ⟨#[50]⟩], listV [numV ⟨#[57]⟩], listV [numV ⟨#[49]⟩, numV ⟨#[50]⟩, numV ⟨#[52]⟩]] : List Val), u.w ≤ 1048576 := by
  refine ⟨by simp, fun u hu => ?_⟩
  simp only [List.mem_cons, List.not_mem_nil, or_false] at hu
  rcases hu with rfl | rfl | rfl <;> (simp only [listV_w, numV_w, List.map_cons, List.map_nil, List.sum_cons, List.sum_nil]; decide)
def GLe : List (Value → World → Prop) := [GotA (numV ⟨#[49]⟩), GotA (numV ⟨#[50]⟩), GotS [numV ⟨#[49]⟩, numV ⟨#[50]⟩], GotA (listV [numV ⟨#[49]⟩, numV ⟨#[50]⟩]), GotA (numV ⟨#[57]⟩), GotS [numV ⟨#[57]⟩], GotA (listV [numV ⟨#[57]⟩]), GotA (numV ⟨#[49]⟩), GotA (numV ⟨#[50]⟩), GotA (numV ⟨#[52]⟩), GotS [numV ⟨#[49]⟩, numV ⟨#[50]⟩, numV ⟨#[52]⟩], GotA (listV [numV ⟨#[49]⟩, numV ⟨#[50]⟩, numV ⟨#[52]⟩]), GotS [listV [numV ⟨#[49]⟩, numV ⟨#[50]⟩], listV [numV ⟨#[57]⟩], listV [numV ⟨#[49]⟩, numV ⟨#[50]⟩, numV ⟨#[52]⟩]], GotS [listV [numV ⟨#[49]⟩, numV ⟨#[50]⟩], listV [numV ⟨#[57]⟩], listV [numV ⟨#[49]⟩, numV ⟨#[50]⟩, numV ⟨#[52]⟩]]]
theorem GLe_stab : ∀ g ∈ GLe, Stab g := by
  unfold GLe
  repeat (first | exact fun _ h => absurd h List.not_mem_nil | refine List.forall_mem_cons.2 ⟨by first | exact stab_A _ | exact stab_S _ | exact stab_B _ | exact stab_I _ | exact stab_K _, ?_⟩)
theorem GLe_up (i : Nat) (v : Value) (w w' : World) (hb : Below w.heap.size w w') (h : GLe.getD i (fun _ _ => True) v w) : GLe.getD i (fun _ _ => True) v w' := by
  rw [List.getD_eq_getElem?_getD] at h ⊢
  cases hg : GLe[i]? with
  | none => trivial
  | some g => rw [hg] at h; exact GLe_stab g (List.mem_of_getElem? hg) v w w' hb h
def GLf : List (Value → World → Prop) := [GotK [⟨#[97]⟩, ⟨#[98]⟩], GotA (numV ⟨#[49]⟩), GotA (numV ⟨#[50]⟩), GotS [numV ⟨#[49]⟩, numV ⟨#[50]⟩], GotA (tabV [⟨#[97]⟩, ⟨#[98]⟩] [numV ⟨#[49]⟩, numV ⟨#[50]⟩]), GotK [⟨#[97]⟩, ⟨#[98]⟩], GotA (numV ⟨#[49]⟩), GotA (numV ⟨#[51]⟩), GotS [numV ⟨#[49]⟩, numV ⟨#[51]⟩], GotA (tabV [⟨#[97]⟩, ⟨#[98]⟩] [numV ⟨#[49]⟩, numV ⟨#[51]⟩]), GB true, GB true, GotK [⟨#[97]⟩], GotA (numV ⟨#[49]⟩), GotS [numV ⟨#[49]⟩], GotA (tabV [⟨#[97]⟩] [numV ⟨#[49]⟩]), GotK [⟨#[97]⟩], GotA (numV ⟨#[50]⟩), GotS [numV ⟨#[50]⟩], GotA (tabV [⟨#[97]⟩] [numV ⟨#[50]⟩]), GB true, GB true, GB true, GotK [⟨#[97]⟩], GotA (numV ⟨#[49]⟩), GotS [numV ⟨#[49]⟩], GotA (tabV [⟨#[97]⟩] [numV ⟨#[49]⟩]), GotK [⟨#[98]⟩, ⟨#[99]⟩], GotA (numV ⟨#[50]⟩), GotA (numV ⟨#[51]⟩), GotS [numV ⟨#[50]⟩, numV ⟨#[51]⟩], GotA (tabV [⟨#[98]⟩, ⟨#[99]⟩] [numV ⟨#[50]⟩, numV ⟨#[51]⟩]), GB false, GB true, GB true, GB true, GotA (numV ⟨#[49]⟩), GotA (numV ⟨#[50]⟩), GB false, GB true, GB true, GB true, GotA (listV []), GotA (numV ⟨#[49]⟩), GotS [numV ⟨#[49]⟩], GotA (listV [numV ⟨#[49]⟩]), GB true, GB true, GB true, GotA (numV ⟨#[49]⟩), GotA (numV ⟨#[50]⟩), GotA (numV ⟨#[51]⟩), GotS [numV ⟨#[49]⟩, numV ⟨#[50]⟩, numV ⟨#[51]⟩], GotA (listV [numV ⟨#[49]⟩, numV ⟨#[50]⟩, numV ⟨#[51]⟩]), GotS [listV [numV ⟨#[49]⟩, numV ⟨#[50]⟩], listV [numV ⟨#[57]⟩], listV [numV ⟨#[49]⟩, numV ⟨#[50]⟩, numV ⟨#[52]⟩]], GI 0, GB true, GB true, GB true]
theorem GLf_stab : ∀ g ∈ GLf, Stab g := by
  unfold GLf
  repeat (first | exact fun _ h => absurd h List.not_mem_nil | refine List.forall_mem_cons.2 ⟨by first | exact stab_A _ | exact stab_S _ | exact stab_B _ | exact stab_I _ | exact stab_K _, ?_⟩)
theorem GLf_up (i : Nat) (v : Value) (w w' : World) (hb : Below w.heap.size w w') (h : GLf.getD i (fun _ _ => True) v w) : GLf.getD i (fun _ _ => True) v w' := by
  rw [List.getD_eq_getElem?_getD] at h ⊢
  cases hg : GLf[i]? with
  | none => trivial
  | some g => rw [hg] at h; exact GLf_stab g (List.mem_of_getElem? hg) v w w' hb h
/-- Behind the first region: the slots that stay, and the list of lists. -/
def EtM (W0 : World) (v1 v2 v3 v4 : Value) : Exit → Act → World → Prop
  | .normal, a, w' => a.tmps.getD 1 undef = v1 ∧ a.tmps.getD 2 undef = v2 ∧ a.tmps.getD 3 undef = v3 ∧ a.tmps.getD 4 undef = v4 ∧ GotS ([listV [numV ⟨#[49]⟩, numV ⟨#[50]⟩], listV [numV ⟨#[57]⟩], listV [numV ⟨#[49]⟩, numV ⟨#[50]⟩, numV ⟨#[52]⟩]]) (a.tmps.getD 5 undef) w' ∧ a.tmps.size = 81 ∧ a.defers = [] ∧ Below W0.heap.size W0 w'
  | _, _, _ => False
def EtQ (W0 : World) : Exit → Act → World → Prop
  | .normal, a, w' => a.tmps.getD 0 undef = .bool true ∧ a.defers = [] ∧ Below W0.heap.size W0 w'
  | _, _, _ => False
set_option maxRecDepth 100000 in
set_option maxHeartbeats 12800000 in
theorem lives21_c (w : World) : Calls Tryz.prog 8 #[] w (Ret (.bool true) w) := by
  go_enter Tryz.func8, Tryz.ntmps8
  go_upto_region 5 with (first
    | (have kq := k1; go_at_call 28; (with_reducible refine (num21_c _ ⟨#[50]⟩).mono ?_); rintro e w2 ⟨y2, rfl, hv2, hr2, hb2⟩)
    | (go_at_call 28; (with_reducible refine (num21_c _ ⟨#[49]⟩).mono ?_); rintro e w1 ⟨y1, rfl, hv1, hr1, hb1⟩
       have k1 := trivial))
  go_name_world W0 hW0
  have hK1 : W0.heap[w.heap.size]? = some (.cells (([⟨#[97]⟩, ⟨#[98]⟩] : List ByteArray).flatMap strE).toArray 9 (0, 0)) := by rw [← hW0]; exact blk_al (blk_via hb2 (blk_al (blk_via hb1 (blk_al (heap_alloc_new w _)))))
  have hK2 : W0.heap[w.heap.size + 1]? = some (.cells (([⟨#[97]⟩] : List ByteArray).flatMap strE).toArray 9 (0, 0)) := by rw [← hW0]; exact blk_al (blk_via hb2 (blk_al (blk_via hb1 (blk_new2 w _ _))))
  have hB1 : W0.heap[w1.heap.size]? = some (.cells #[.int .u8 y1.k, .string y1.t, .slice y1.la y1.l.length y1.lc, .slice y1.ka y1.ks.length y1.kc] 26 (0, 0)) := by rw [← hW0]; exact blk_al (blk_via hb2 (heap_alloc_new w1 _))
  have hB2 : W0.heap[w2.heap.size]? = some (.cells #[.int .u8 y2.k, .string y2.t, .slice y2.la y2.l.length y2.lc, .slice y2.ka y2.ks.length y2.kc] 26 (0, 0)) := by rw [← hW0]; exact heap_alloc_new w2 _
  have hb02 : Below w2.heap.size w2 W0 := by rw [← hW0]; exact below_al (Below.refl _ _)
  have hbW : Below w.heap.size w W0 := below_via (below_via (below_al (below_via (below_al (below_al (Below.refl _ _))) hb1)) hb2) hb02
  replace hr1 := hr1.up (below_via (below_via (below_al (o := .cells #[.int .u8 y1.k, .string y1.t, .slice y1.la y1.l.length y1.lc, .slice y1.ka y1.ks.length y1.kc] 26) (Below.refl w1.heap.size w1)) hb2) hb02)
  replace hr2 := hr2.up hb02
  obtain ⟨p0, p1, p2, p3⟩ := vb4 hB1
  obtain ⟨q0, q1, q2, q3⟩ := vb4 hB2
  have HBW := Lib.hid hbW
  have HRY1 := Lib.hid (show ∀ W, Below W0.heap.size W0 W → Rd W y1 from fun W h => hr1.up h)
  have HRY2 := Lib.hid (show ∀ W, Below W0.heap.size W0 W → Rd W y2 from fun W h => hr2.up h)
  have HV1 := Lib.hid hv1
  have HV2 := Lib.hid hv2
  have HKA := Lib.hid (show GotK [⟨#[97]⟩, ⟨#[98]⟩] (.slice (some ⟨w.heap.size, 0, none⟩) 2 2) W0 from ⟨_, rfl, hK1⟩)
  have HKB := Lib.hid (show GotK [⟨#[97]⟩] (.slice (some ⟨w.heap.size + 1, 0, none⟩) 1 1) W0 from ⟨_, rfl, hK2⟩)
  obtain ⟨N1, hN1⟩ : ∃ N1, N1 = w1.heap.size := ⟨_, rfl⟩
  obtain ⟨N2, hN2⟩ : ∃ N2, N2 = w2.heap.size := ⟨_, rfl⟩
  rw [← hN1] at p0 p1 p2 p3 ⊢
  rw [← hN2] at q0 q1 q2 q3 ⊢
  clear hW0 hK1 hK2 hB1 hB2 hb02 hb1 hb2 hbW k1 hv1 hr1 hv2 hr2 hN1 hN2
  refine wp_mono (Q := EtM W0 (.slice (some ⟨w.heap.size, 0, none⟩) 2 2) (.slice (some ⟨w.heap.size + 1, 0, none⟩) 1 1) (.pointer (some ⟨N1, 0, none⟩)) (.pointer (some ⟨N2, 0, none⟩))) ?reg ?rest
  case reg =>
    clear HBW HKA HKB
    refine wp_region_steps (by kernel_rfl) (S := fun W => Below W0.heap.size W0 W) (G := fun i => GLe.getD i (fun _ _ => True)) (fun W W' => Below W.heap.size W W') (by kernel_rfl) (by kernel_rfl) (by kernel_rfl) ?hup ?h0 ?hstep ?hend
    case hup => exact GLe_up
    case h0 => exact (Below.refl _ _).drew
    case hend => exact fun a w F D => ⟨F.at 1 (by kernel_rfl), F.at 2 (by kernel_rfl), F.at 3 (by kernel_rfl), F.at 4 (by kernel_rfl), D 13 _ 5 rfl rfl, F.len, F.defers, F.cls⟩
    case hstep =>
      refine ⟨?_, ?_, ?_, ?_, ?_, ?_, ?_, ?_, ?_, ?_, ?_, ?_, ?_, ?_, trivial⟩
      · intro a w F D
        have o3 := get_of (F.at 3 (by kernel_rfl)) (by simp [undef])
        have c0 := blkv F.cls p0
        have c1 := blkv F.cls p1
        have c2 := blkv F.cls p2
        have c3 := blkv F.cls p3
        have hg := GotA.mk rfl HV1.out (HRY1.out _ F.cls)
        have FC := Lib.hid F.cls
        refine ⟨wanted_none rfl, fun K hK => ?_⟩
        have HK := Lib.hid hK
        clear hK D F
        replace hg := Lib.hid hg
        go_simp
        exact HK.out _ _ FC.out (Below.refl _ _) hg.out
      · intro a w F D
        have o4 := get_of (F.at 4 (by kernel_rfl)) (by simp [undef])
        have c0 := blkv F.cls q0
        have c1 := blkv F.cls q1
        have c2 := blkv F.cls q2
        have c3 := blkv F.cls q3
        have hg := GotA.mk rfl HV2.out (HRY2.out _ F.cls)
        have FC := Lib.hid F.cls
        refine ⟨wanted_none rfl, fun K hK => ?_⟩
        have HK := Lib.hid hK
        clear hK D F
        replace hg := Lib.hid hg
        go_simp
        exact HK.out _ _ FC.out (Below.refl _ _) hg.out
      · intro a w F D
        obtain ⟨y10, e10, v10, r10⟩ : GotA (numV ⟨#[49]⟩) (a.tmps.getD 10 undef) w := (D ⟨0, .data⟩ (by simp) rfl _ _ rfl rfl)
        replace e10 := get_of e10 (by simp [AV.val, undef])
        obtain ⟨y11, e11, v11, r11⟩ : GotA (numV ⟨#[50]⟩) (a.tmps.getD 11 undef) w := (D ⟨1, .data⟩ (by simp) rfl _ _ rfl rfl)
        replace e11 := get_of e11 (by simp [AV.val, undef])
        have hg := gs2 (w := w) v10 r10 v11 r11
        have FC := Lib.hid F.cls
        refine ⟨wanted_none rfl, fun K hK => ?_⟩
        have HK := Lib.hid hK
        clear hK D F
        replace hg := Lib.hid hg
        go_simp
        exact HK.out _ _ (below_al FC.out) (below_al (Below.refl _ _)) hg.out
      · intro a w F D
        obtain ⟨b12, ys12, e12, l12, hB12, r12⟩ : GotS [numV ⟨#[49]⟩, numV ⟨#[50]⟩] (a.tmps.getD 12 undef) w := (D ⟨2, .data⟩ (by simp) rfl _ _ rfl rfl)
        replace e12 := get_of e12 (by simp [undef])
        have HC := Lib.hid (list21_s l12 hB12 r12)
        clear l12 hB12 r12
        have FC := Lib.hid F.cls
        refine ⟨wanted_none rfl, fun K hK => ?_⟩
        have HK := Lib.hid hK
        clear hK D F
        go_simp
        refine (HC.out).mono ?_
        rintro e w' ⟨y, rfl, hv, hr, hb⟩
        exact HK.out _ _ (below_via FC.out hb) hb ⟨y, rfl, hv, hr⟩
      · intro a w F D
        have FC := Lib.hid F.cls
        refine ⟨wanted_none rfl, fun K hK => ?_⟩
        have HK := Lib.hid hK
        clear hK D F
        go_simp
        refine (num21_c _ ⟨#[57]⟩).mono ?_
        rintro e w' ⟨y, rfl, hv, hr, hb⟩
        exact HK.out _ _ (below_via FC.out hb) hb ⟨y, rfl, hv, hr⟩
      · intro a w F D
        obtain ⟨y14, e14, v14, r14⟩ : GotA (numV ⟨#[57]⟩) (a.tmps.getD 14 undef) w := (D ⟨4, .data⟩ (by simp) rfl _ _ rfl rfl)
        replace e14 := get_of e14 (by simp [AV.val, undef])
        have hg := gs1 (w := w) v14 r14
        have FC := Lib.hid F.cls
        refine ⟨wanted_none rfl, fun K hK => ?_⟩
        have HK := Lib.hid hK
        clear hK D F
        replace hg := Lib.hid hg
        go_simp
        exact HK.out _ _ (below_al FC.out) (below_al (Below.refl _ _)) hg.out
      · intro a w F D
        obtain ⟨b15, ys15, e15, l15, hB15, r15⟩ : GotS [numV ⟨#[57]⟩] (a.tmps.getD 15 undef) w := (D ⟨5, .data⟩ (by simp) rfl _ _ rfl rfl)
        replace e15 := get_of e15 (by simp [undef])
        have HC := Lib.hid (list21_s l15 hB15 r15)
        clear l15 hB15 r15
        have FC := Lib.hid F.cls
        refine ⟨wanted_none rfl, fun K hK => ?_⟩
        have HK := Lib.hid hK
        clear hK D F
        go_simp
        refine (HC.out).mono ?_
        rintro e w' ⟨y, rfl, hv, hr, hb⟩
        exact HK.out _ _ (below_via FC.out hb) hb ⟨y, rfl, hv, hr⟩
      · intro a w F D
        have o3 := get_of (F.at 3 (by kernel_rfl)) (by simp [undef])
        have c0 := blkv F.cls p0
        have c1 := blkv F.cls p1
        have c2 := blkv F.cls p2
        have c3 := blkv F.cls p3
        have hg := GotA.mk rfl HV1.out (HRY1.out _ F.cls)
        have FC := Lib.hid F.cls
        refine ⟨wanted_none rfl, fun K hK => ?_⟩
        have HK := Lib.hid hK
        clear hK D F
        replace hg := Lib.hid hg
        go_simp
        exact HK.out _ _ FC.out (Below.refl _ _) hg.out
      · intro a w F D
        have o4 := get_of (F.at 4 (by kernel_rfl)) (by simp [undef])
        have c0 := blkv F.cls q0
        have c1 := blkv F.cls q1
        have c2 := blkv F.cls q2
        have c3 := blkv F.cls q3
        have hg := GotA.mk rfl HV2.out (HRY2.out _ F.cls)
        have FC := Lib.hid F.cls
        refine ⟨wanted_none rfl, fun K hK => ?_⟩
        have HK := Lib.hid hK
        clear hK D F
        replace hg := Lib.hid hg
        go_simp
        exact HK.out _ _ FC.out (Below.refl _ _) hg.out
      · intro a w F D
        have FC := Lib.hid F.cls
        refine ⟨wanted_none rfl, fun K hK => ?_⟩
        have HK := Lib.hid hK
        clear hK D F
        go_simp
        refine (num21_c _ ⟨#[52]⟩).mono ?_
        rintro e w' ⟨y, rfl, hv, hr, hb⟩
        exact HK.out _ _ (below_via FC.out hb) hb ⟨y, rfl, hv, hr⟩
      · intro a w F D
        obtain ⟨y17, e17, v17, r17⟩ : GotA (numV ⟨#[49]⟩) (a.tmps.getD 17 undef) w := (D ⟨7, .data⟩ (by simp) rfl _ _ rfl rfl)
        replace e17 := get_of e17 (by simp [AV.val, undef])
        obtain ⟨y18, e18, v18, r18⟩ : GotA (numV ⟨#[50]⟩) (a.tmps.getD 18 undef) w := (D ⟨8, .data⟩ (by simp) rfl _ _ rfl rfl)
        replace e18 := get_of e18 (by simp [AV.val, undef])
        obtain ⟨y19, e19, v19, r19⟩ : GotA (numV ⟨#[52]⟩) (a.tmps.getD 19 undef) w := (D ⟨9, .data⟩ (by simp) rfl _ _ rfl rfl)
        replace e19 := get_of e19 (by simp [AV.val, undef])
        have hg := gs3 (w := w) v17 r17 v18 r18 v19 r19
        have FC := Lib.hid F.cls
        refine ⟨wanted_none rfl, fun K hK => ?_⟩
        have HK := Lib.hid hK
        clear hK D F
        replace hg := Lib.hid hg
        go_simp
        exact HK.out _ _ (below_al FC.out) (below_al (Below.refl _ _)) hg.out
      · intro a w F D
        obtain ⟨b20, ys20, e20, l20, hB20, r20⟩ : GotS [numV ⟨#[49]⟩, numV ⟨#[50]⟩, numV ⟨#[52]⟩] (a.tmps.getD 20 undef) w := (D ⟨10, .data⟩ (by simp) rfl _ _ rfl rfl)
        replace e20 := get_of e20 (by simp [undef])
        have HC := Lib.hid (list21_s l20 hB20 r20)
        clear l20 hB20 r20
        have FC := Lib.hid F.cls
        refine ⟨wanted_none rfl, fun K hK => ?_⟩
        have HK := Lib.hid hK
        clear hK D F
        go_simp
        refine (HC.out).mono ?_
        rintro e w' ⟨y, rfl, hv, hr, hb⟩
        exact HK.out _ _ (below_via FC.out hb) hb ⟨y, rfl, hv, hr⟩
      · intro a w F D
        obtain ⟨y13, e13, v13, r13⟩ : GotA (listV [numV ⟨#[49]⟩, numV ⟨#[50]⟩]) (a.tmps.getD 13 undef) w := (D ⟨3, .data⟩ (by simp) rfl _ _ rfl rfl)
        replace e13 := get_of e13 (by simp [AV.val, undef])
        obtain ⟨y16, e16, v16, r16⟩ : GotA (listV [numV ⟨#[57]⟩]) (a.tmps.getD 16 undef) w := (D ⟨6, .data⟩ (by simp) rfl _ _ rfl rfl)
        replace e16 := get_of e16 (by simp [AV.val, undef])
        obtain ⟨y21, e21, v21, r21⟩ : GotA (listV [numV ⟨#[49]⟩, numV ⟨#[50]⟩, numV ⟨#[52]⟩]) (a.tmps.getD 21 undef) w := (D ⟨11, .data⟩ (by simp) rfl _ _ rfl rfl)
        replace e21 := get_of e21 (by simp [AV.val, undef])
        have hg := gs3 (w := w) v13 r13 v16 r16 v21 r21
        have FC := Lib.hid F.cls
        refine ⟨wanted_none rfl, fun K hK => ?_⟩
        have HK := Lib.hid hK
        clear hK D F
        replace hg := Lib.hid hg
        go_simp
        exact HK.out _ _ (below_al FC.out) (below_al (Below.refl _ _)) hg.out
      · intro a w F D
        have g22 : GotS [listV [numV ⟨#[49]⟩, numV ⟨#[50]⟩], listV [numV ⟨#[57]⟩], listV [numV ⟨#[49]⟩, numV ⟨#[50]⟩, numV ⟨#[52]⟩]] (a.tmps.getD 22 undef) w := (D ⟨12, .data⟩ (by simp) rfl _ _ rfl rfl)
        obtain ⟨b22, ys22, e22, l22, hB22, r22⟩ := g22
        replace e22 := get_of e22 (by simp [undef])
        have hg : GotS [listV [numV ⟨#[49]⟩, numV ⟨#[50]⟩], listV [numV ⟨#[57]⟩], listV [numV ⟨#[49]⟩, numV ⟨#[50]⟩, numV ⟨#[52]⟩]] (.slice (some ⟨b22, 0, none⟩) [listV [numV ⟨#[49]⟩, numV ⟨#[50]⟩], listV [numV ⟨#[57]⟩], listV [numV ⟨#[49]⟩, numV ⟨#[50]⟩, numV ⟨#[52]⟩]].length [listV [numV ⟨#[49]⟩, numV ⟨#[50]⟩], listV [numV ⟨#[57]⟩], listV [numV ⟨#[49]⟩, numV ⟨#[50]⟩, numV ⟨#[52]⟩]].length) w := ⟨b22, ys22, rfl, l22, hB22, r22⟩
        clear l22 hB22 r22
        have FC := Lib.hid F.cls
        refine ⟨wanted_none rfl, fun K hK => ?_⟩
        have HK := Lib.hid hK
        clear hK D F
        replace hg := Lib.hid hg
        go_simp
        exact HK.out _ _ FC.out (Below.refl _ _) hg.out
  case rest =>
   intro e a' W5 h
   cases e with
   | normal =>
    obtain ⟨g1, g2, g3, g4, g5, g6, g7, g8⟩ := h
    obtain ⟨tm, df⟩ := a'
    simp only at g1 g2 g3 g4 g5 g6 g7
    subst g7
    have HK1 := Lib.hid (gotk_up HKA.out g8)
    have HK2 := Lib.hid (gotk_up HKB.out g8)
    have HB5 := Lib.hid g8
    have T1 := Lib.hid g1
    have T2 := Lib.hid g2
    have T3 := Lib.hid g3
    have T4 := Lib.hid g4
    have HBW5 := Lib.hid (below_via HBW.out g8)
    obtain ⟨v5, hv5⟩ : ∃ v5, v5 = tm.getD 5 undef := ⟨_, rfl⟩
    rw [← hv5] at g5
    have HS5 := Lib.hid g5
    have T5 := Lib.hid hv5.symm
    clear g1 g2 g3 g4 g5 g8 hv5 HKA HKB HBW
    go_upto_region 6 with fail
    refine wp_mono (Q := EtQ W5) ?reg6 ?rest6
    case reg6 =>
      refine wp_region_steps (by kernel_rfl) (S := fun W => Below W5.heap.size W5 W) (G := fun i => GLf.getD i (fun _ _ => True)) (fun W W' => Below W.heap.size W W') (by kernel_rfl) (by rw [g6]; kernel_rfl) (by kernel_rfl) ?hup ?h0 ?hstep ?hend
      case hup => exact GLf_up
      case h0 => exact (Below.refl _ _).drew
      case hend => exact fun a w F D => ⟨D 58 _ 0 rfl rfl, F.defers, F.cls⟩
      case hstep =>
        refine ⟨?_, ?_, ?_, ?_, ?_, ?_, ?_, ?_, ?_, ?_, ?_, ?_, ?_, ?_, ?_, ?_, ?_, ?_, ?_, ?_, ?_, ?_, ?_, ?_, ?_, ?_, ?_, ?_, ?_, ?_, ?_, ?_, ?_, ?_, ?_, ?_, ?_, ?_, ?_, ?_, ?_, ?_, ?_, ?_, ?_, ?_, ?_, ?_, ?_, ?_, ?_, ?_, ?_, ?_, ?_, ?_, ?_, ?_, ?_, trivial⟩
        · intro a w F D
          have o1 := get_of ((F.at 1 (by kernel_rfl)).trans T1.out) (by simp [undef])
          have hg := gotk_up (HK1.out) F.cls
          have FC := Lib.hid F.cls
          refine ⟨wanted_none rfl, fun K hK => ?_⟩
          have HK := Lib.hid hK
          clear hK D F
          replace hg := Lib.hid hg
          go_simp
          exact HK.out _ _ FC.out (Below.refl _ _) hg.out
        · intro a w F D
          have o3 := get_of ((F.at 3 (by kernel_rfl)).trans T3.out) (by simp [undef])
          have c0 := blkv (below_via HB5.out F.cls) p0
          have c1 := blkv (below_via HB5.out F.cls) p1
          have c2 := blkv (below_via HB5.out F.cls) p2
          have c3 := blkv (below_via HB5.out F.cls) p3
          have hg := GotA.mk rfl HV1.out (HRY1.out _ (below_via HB5.out F.cls))
          have FC := Lib.hid F.cls
          refine ⟨wanted_none rfl, fun K hK => ?_⟩
          have HK := Lib.hid hK
          clear hK D F
          replace hg := Lib.hid hg
          go_simp
          exact HK.out _ _ FC.out (Below.refl _ _) hg.out
        · intro a w F D
          have o4 := get_of ((F.at 4 (by kernel_rfl)).trans T4.out) (by simp [undef])
          have c0 := blkv (below_via HB5.out F.cls) q0
          have c1 := blkv (below_via HB5.out F.cls) q1
          have c2 := blkv (below_via HB5.out F.cls) q2
          have c3 := blkv (below_via HB5.out F.cls) q3
          have hg := GotA.mk rfl HV2.out (HRY2.out _ (below_via HB5.out F.cls))
          have FC := Lib.hid F.cls
          refine ⟨wanted_none rfl, fun K hK => ?_⟩
          have HK := Lib.hid hK
          clear hK D F
          replace hg := Lib.hid hg
          go_simp
          exact HK.out _ _ FC.out (Below.refl _ _) hg.out
        · intro a w F D
          obtain ⟨y24, e24, v24, r24⟩ : GotA (numV ⟨#[49]⟩) (a.tmps.getD 24 undef) w := (D ⟨1, .data⟩ (by simp) rfl _ _ rfl rfl)
          replace e24 := get_of e24 (by simp [AV.val, undef])
          obtain ⟨y25, e25, v25, r25⟩ : GotA (numV ⟨#[50]⟩) (a.tmps.getD 25 undef) w := (D ⟨2, .data⟩ (by simp) rfl _ _ rfl rfl)
          replace e25 := get_of e25 (by simp [AV.val, undef])
          have hg := gs2 (w := w) v24 r24 v25 r25
          have FC := Lib.hid F.cls
          refine ⟨wanted_none rfl, fun K hK => ?_⟩
          have HK := Lib.hid hK
          clear hK D F
          replace hg := Lib.hid hg
          go_simp
          exact HK.out _ _ (below_al FC.out) (below_al (Below.refl _ _)) hg.out
        · intro a w F D
          obtain ⟨k23, e23, hK23⟩ : GotK [⟨#[97]⟩, ⟨#[98]⟩] (a.tmps.getD 23 undef) w := (D ⟨0, .data⟩ (by simp) rfl _ _ rfl rfl)
          replace e23 := get_of e23 (by simp [undef])
          obtain ⟨b26, ys26, e26, l26, hB26, r26⟩ : GotS [numV ⟨#[49]⟩, numV ⟨#[50]⟩] (a.tmps.getD 26 undef) w := (D ⟨3, .data⟩ (by simp) rfl _ _ rfl rfl)
          replace e26 := get_of e26 (by simp [undef])
          have HC := Lib.hid (tab_s hK23 l26 hB26 r26)
          clear hK23 l26 hB26 r26
          have FC := Lib.hid F.cls
          refine ⟨wanted_none rfl, fun K hK => ?_⟩
          have HK := Lib.hid hK
          clear hK D F
          go_simp
          refine (HC.out).mono ?_
          rintro e w' ⟨y, rfl, hv, hr, hb⟩
          exact HK.out _ _ (below_via FC.out hb) hb ⟨y, rfl, hv, hr⟩
        · intro a w F D
          have o1 := get_of ((F.at 1 (by kernel_rfl)).trans T1.out) (by simp [undef])
          have hg := gotk_up (HK1.out) F.cls
          have FC := Lib.hid F.cls
          refine ⟨wanted_none rfl, fun K hK => ?_⟩
          have HK := Lib.hid hK
          clear hK D F
          replace hg := Lib.hid hg
          go_simp
          exact HK.out _ _ FC.out (Below.refl _ _) hg.out
        · intro a w F D
          have o3 := get_of ((F.at 3 (by kernel_rfl)).trans T3.out) (by simp [undef])
          have c0 := blkv (below_via HB5.out F.cls) p0
          have c1 := blkv (below_via HB5.out F.cls) p1
          have c2 := blkv (below_via HB5.out F.cls) p2
          have c3 := blkv (below_via HB5.out F.cls) p3
          have hg := GotA.mk rfl HV1.out (HRY1.out _ (below_via HB5.out F.cls))
          have FC := Lib.hid F.cls
          refine ⟨wanted_none rfl, fun K hK => ?_⟩
          have HK := Lib.hid hK
          clear hK D F
          replace hg := Lib.hid hg
          go_simp
          exact HK.out _ _ FC.out (Below.refl _ _) hg.out
        · intro a w F D
          have FC := Lib.hid F.cls
          refine ⟨wanted_none rfl, fun K hK => ?_⟩
          have HK := Lib.hid hK
          clear hK D F
          go_simp
          refine (num21_c _ ⟨#[51]⟩).mono ?_
          rintro e w' ⟨y, rfl, hv, hr, hb⟩
          exact HK.out _ _ (below_via FC.out hb) hb ⟨y, rfl, hv, hr⟩
        · intro a w F D
          obtain ⟨y29, e29, v29, r29⟩ : GotA (numV ⟨#[49]⟩) (a.tmps.getD 29 undef) w := (D ⟨6, .data⟩ (by simp) rfl _ _ rfl rfl)
          replace e29 := get_of e29 (by simp [AV.val, undef])
          obtain ⟨y30, e30, v30, r30⟩ : GotA (numV ⟨#[51]⟩) (a.tmps.getD 30 undef) w := (D ⟨7, .data⟩ (by simp) rfl _ _ rfl rfl)
          replace e30 := get_of e30 (by simp [AV.val, undef])
          have hg := gs2 (w := w) v29 r29 v30 r30
          have FC := Lib.hid F.cls
          refine ⟨wanted_none rfl, fun K hK => ?_⟩
          have HK := Lib.hid hK
          clear hK D F
          replace hg := Lib.hid hg
          go_simp
          exact HK.out _ _ (below_al FC.out) (below_al (Below.refl _ _)) hg.out
        · intro a w F D
          obtain ⟨k28, e28, hK28⟩ : GotK [⟨#[97]⟩, ⟨#[98]⟩] (a.tmps.getD 28 undef) w := (D ⟨5, .data⟩ (by simp) rfl _ _ rfl rfl)
          replace e28 := get_of e28 (by simp [undef])
          obtain ⟨b31, ys31, e31, l31, hB31, r31⟩ : GotS [numV ⟨#[49]⟩, numV ⟨#[51]⟩] (a.tmps.getD 31 undef) w := (D ⟨8, .data⟩ (by simp) rfl _ _ rfl rfl)
          replace e31 := get_of e31 (by simp [undef])
          have HC := Lib.hid (tab_s hK28 l31 hB31 r31)
          clear hK28 l31 hB31 r31
          have FC := Lib.hid F.cls
          refine ⟨wanted_none rfl, fun K hK => ?_⟩
          have HK := Lib.hid hK
          clear hK D F
          go_simp
          refine (HC.out).mono ?_
          rintro e w' ⟨y, rfl, hv, hr, hb⟩
          exact HK.out _ _ (below_via FC.out hb) hb ⟨y, rfl, hv, hr⟩
        · intro a w F D
          obtain ⟨y27, e27, v27, r27⟩ : GotA (tabV [⟨#[97]⟩, ⟨#[98]⟩] [numV ⟨#[49]⟩, numV ⟨#[50]⟩]) (a.tmps.getD 27 undef) w := (D ⟨4, .data⟩ (by simp) rfl _ _ rfl rfl)
          replace e27 := get_of e27 (by simp [AV.val, undef])
          obtain ⟨y32, e32, v32, r32⟩ : GotA (tabV [⟨#[97]⟩, ⟨#[98]⟩] [numV ⟨#[49]⟩, numV ⟨#[51]⟩]) (a.tmps.getD 32 undef) w := (D ⟨9, .data⟩ (by simp) rfl _ _ rfl rfl)
          replace e32 := get_of e32 (by simp [AV.val, undef])
          have FC := Lib.hid F.cls
          refine ⟨wanted_none rfl, fun K hK => ?_⟩
          have HK := Lib.hid hK
          clear hK D F
          go_simp
          refine (are_v near_1 rfl v27 v32 (show (tabV [⟨#[97]⟩, ⟨#[98]⟩] [numV ⟨#[49]⟩, numV ⟨#[50]⟩]).w ≤ 1048576 by simp only [wts]; decide) (show (tabV [⟨#[97]⟩, ⟨#[98]⟩] [numV ⟨#[49]⟩, numV ⟨#[51]⟩]).w ≤ 1048576 by simp only [wts]; decide) r27 r32).mono ?_
          rintro e w' ⟨rfl, hb⟩
          exact HK.out _ _ (below_via FC.out hb) hb rfl
        · intro a w F D
          have e33 : GB true (a.tmps.getD 33 undef) w := (D ⟨10, .data⟩ (by simp) rfl _ _ rfl rfl)
          replace e33 := get_of e33 (by simp [undef])
          have FC := Lib.hid F.cls
          refine ⟨wanted_none rfl, fun K hK => ?_⟩
          have HK := Lib.hid hK
          clear hK D F
          go_simp
          exact HK.out _ _ FC.out (Below.refl _ _) rfl
        · intro a w F D
          have dg : GB true (a.tmps.getD 34 undef) w := D ⟨11, .guard⟩ (by simp) rfl _ _ rfl rfl
          have o2 := get_of ((F.at 2 (by kernel_rfl)).trans T2.out) (by simp [undef])
          have hg := gotk_up (HK2.out) F.cls
          have FC := Lib.hid F.cls
          refine ⟨wanted_some rfl rfl (get_of dg (by simp [undef])), fun K hK => ?_⟩
          have HK := Lib.hid hK
          clear hK D F dg
          replace hg := Lib.hid hg
          go_simp
          exact HK.out _ _ FC.out (Below.refl _ _) hg.out
        · intro a w F D
          have dg : GB true (a.tmps.getD 34 undef) w := D ⟨11, .guard⟩ (by simp) rfl _ _ rfl rfl
          have o3 := get_of ((F.at 3 (by kernel_rfl)).trans T3.out) (by simp [undef])
          have c0 := blkv (below_via HB5.out F.cls) p0
          have c1 := blkv (below_via HB5.out F.cls) p1
          have c2 := blkv (below_via HB5.out F.cls) p2
          have c3 := blkv (below_via HB5.out F.cls) p3
          have hg := GotA.mk rfl HV1.out (HRY1.out _ (below_via HB5.out F.cls))
          have FC := Lib.hid F.cls
          refine ⟨wanted_some rfl rfl (get_of dg (by simp [undef])), fun K hK => ?_⟩
          have HK := Lib.hid hK
          clear hK D F dg
          replace hg := Lib.hid hg
          go_simp
          exact HK.out _ _ FC.out (Below.refl _ _) hg.out
        · intro a w F D
          have dg : GB true (a.tmps.getD 34 undef) w := D ⟨11, .guard⟩ (by simp) rfl _ _ rfl rfl
          obtain ⟨y36, e36, v36, r36⟩ : GotA (numV ⟨#[49]⟩) (a.tmps.getD 36 undef) w := (D ⟨13, .data⟩ (by simp) rfl _ _ rfl rfl)
          replace e36 := get_of e36 (by simp [AV.val, undef])
          have hg := gs1 (w := w) v36 r36
          have FC := Lib.hid F.cls
          refine ⟨wanted_some rfl rfl (get_of dg (by simp [undef])), fun K hK => ?_⟩
          have HK := Lib.hid hK
          clear hK D F dg
          replace hg := Lib.hid hg
          go_simp
          exact HK.out _ _ (below_al FC.out) (below_al (Below.refl _ _)) hg.out
        · intro a w F D
          have dg : GB true (a.tmps.getD 34 undef) w := D ⟨11, .guard⟩ (by simp) rfl _ _ rfl rfl
          obtain ⟨k35, e35, hK35⟩ : GotK [⟨#[97]⟩] (a.tmps.getD 35 undef) w := (D ⟨12, .data⟩ (by simp) rfl _ _ rfl rfl)
          replace e35 := get_of e35 (by simp [undef])
          obtain ⟨b37, ys37, e37, l37, hB37, r37⟩ : GotS [numV ⟨#[49]⟩] (a.tmps.getD 37 undef) w := (D ⟨14, .data⟩ (by simp) rfl _ _ rfl rfl)
          replace e37 := get_of e37 (by simp [undef])
          have HC := Lib.hid (tab_s hK35 l37 hB37 r37)
          clear hK35 l37 hB37 r37
          have FC := Lib.hid F.cls
          refine ⟨wanted_some rfl rfl (get_of dg (by simp [undef])), fun K hK => ?_⟩
          have HK := Lib.hid hK
          clear hK D F dg
          go_simp
          refine (HC.out).mono ?_
          rintro e w' ⟨y, rfl, hv, hr, hb⟩
          exact HK.out _ _ (below_via FC.out hb) hb ⟨y, rfl, hv, hr⟩
        · intro a w F D
          have dg : GB true (a.tmps.getD 34 undef) w := D ⟨11, .guard⟩ (by simp) rfl _ _ rfl rfl
          have o2 := get_of ((F.at 2 (by kernel_rfl)).trans T2.out) (by simp [undef])
          have hg := gotk_up (HK2.out) F.cls
          have FC := Lib.hid F.cls
          refine ⟨wanted_some rfl rfl (get_of dg (by simp [undef])), fun K hK => ?_⟩
          have HK := Lib.hid hK
          clear hK D F dg
          replace hg := Lib.hid hg
          go_simp
          exact HK.out _ _ FC.out (Below.refl _ _) hg.out
        · intro a w F D
          have dg : GB true (a.tmps.getD 34 undef) w := D ⟨11, .guard⟩ (by simp) rfl _ _ rfl rfl
          have o4 := get_of ((F.at 4 (by kernel_rfl)).trans T4.out) (by simp [undef])
          have c0 := blkv (below_via HB5.out F.cls) q0
          have c1 := blkv (below_via HB5.out F.cls) q1
          have c2 := blkv (below_via HB5.out F.cls) q2
          have c3 := blkv (below_via HB5.out F.cls) q3
          have hg := GotA.mk rfl HV2.out (HRY2.out _ (below_via HB5.out F.cls))
          have FC := Lib.hid F.cls
          refine ⟨wanted_some rfl rfl (get_of dg (by simp [undef])), fun K hK => ?_⟩
          have HK := Lib.hid hK
          clear hK D F dg
          replace hg := Lib.hid hg
          go_simp
          exact HK.out _ _ FC.out (Below.refl _ _) hg.out
        · intro a w F D
          have dg : GB true (a.tmps.getD 34 undef) w := D ⟨11, .guard⟩ (by simp) rfl _ _ rfl rfl
          obtain ⟨y40, e40, v40, r40⟩ : GotA (numV ⟨#[50]⟩) (a.tmps.getD 40 undef) w := (D ⟨17, .data⟩ (by simp) rfl _ _ rfl rfl)
          replace e40 := get_of e40 (by simp [AV.val, undef])
          have hg := gs1 (w := w) v40 r40
          have FC := Lib.hid F.cls
          refine ⟨wanted_some rfl rfl (get_of dg (by simp [undef])), fun K hK => ?_⟩
          have HK := Lib.hid hK
          clear hK D F dg
          replace hg := Lib.hid hg
          go_simp
          exact HK.out _ _ (below_al FC.out) (below_al (Below.refl _ _)) hg.out
        · intro a w F D
          have dg : GB true (a.tmps.getD 34 undef) w := D ⟨11, .guard⟩ (by simp) rfl _ _ rfl rfl
          obtain ⟨k39, e39, hK39⟩ : GotK [⟨#[97]⟩] (a.tmps.getD 39 undef) w := (D ⟨16, .data⟩ (by simp) rfl _ _ rfl rfl)
          replace e39 := get_of e39 (by simp [undef])
          obtain ⟨b41, ys41, e41, l41, hB41, r41⟩ : GotS [numV ⟨#[50]⟩] (a.tmps.getD 41 undef) w := (D ⟨18, .data⟩ (by simp) rfl _ _ rfl rfl)
          replace e41 := get_of e41 (by simp [undef])
          have HC := Lib.hid (tab_s hK39 l41 hB41 r41)
          clear hK39 l41 hB41 r41
          have FC := Lib.hid F.cls
          refine ⟨wanted_some rfl rfl (get_of dg (by simp [undef])), fun K hK => ?_⟩
          have HK := Lib.hid hK
          clear hK D F dg
          go_simp
          refine (HC.out).mono ?_
          rintro e w' ⟨y, rfl, hv, hr, hb⟩
          exact HK.out _ _ (below_via FC.out hb) hb ⟨y, rfl, hv, hr⟩
        · intro a w F D
          have dg : GB true (a.tmps.getD 34 undef) w := D ⟨11, .guard⟩ (by simp) rfl _ _ rfl rfl
          obtain ⟨y38, e38, v38, r38⟩ : GotA (tabV [⟨#[97]⟩] [numV ⟨#[49]⟩]) (a.tmps.getD 38 undef) w := (D ⟨15, .data⟩ (by simp) rfl _ _ rfl rfl)
          replace e38 := get_of e38 (by simp [AV.val, undef])
          obtain ⟨y42, e42, v42, r42⟩ : GotA (tabV [⟨#[97]⟩] [numV ⟨#[50]⟩]) (a.tmps.getD 42 undef) w := (D ⟨19, .data⟩ (by simp) rfl _ _ rfl rfl)
          replace e42 := get_of e42 (by simp [AV.val, undef])
          have FC := Lib.hid F.cls
          refine ⟨wanted_some rfl rfl (get_of dg (by simp [undef])), fun K hK => ?_⟩
          have HK := Lib.hid hK
          clear hK D F dg
          go_simp
          refine (are_v near_2 rfl v38 v42 (show (tabV [⟨#[97]⟩] [numV ⟨#[49]⟩]).w ≤ 1048576 by simp only [wts]; decide) (show (tabV [⟨#[97]⟩] [numV ⟨#[50]⟩]).w ≤ 1048576 by simp only [wts]; decide) r38 r42).mono ?_
          rintro e w' ⟨rfl, hb⟩
          exact HK.out _ _ (below_via FC.out hb) hb rfl
        · intro a w F D
          have e34 : GB true (a.tmps.getD 34 undef) w := (D ⟨11, .data⟩ (by simp) rfl _ _ rfl rfl)
          replace e34 := get_of e34 (by simp [undef])
          have e43 : GB true (a.tmps.getD 43 undef) w := (D ⟨20, .data⟩ (by simp) rfl _ _ rfl rfl)
          replace e43 := get_of e43 (by simp [undef])
          have FC := Lib.hid F.cls
          refine ⟨wanted_none rfl, fun K hK => ?_⟩
          have HK := Lib.hid hK
          clear hK D F
          go_simp
          exact HK.out _ _ FC.out (Below.refl _ _) rfl
        · intro a w F D
          have e44 : GB true (a.tmps.getD 44 undef) w := (D ⟨21, .data⟩ (by simp) rfl _ _ rfl rfl)
          replace e44 := get_of e44 (by simp [undef])
          have FC := Lib.hid F.cls
          refine ⟨wanted_none rfl, fun K hK => ?_⟩
          have HK := Lib.hid hK
          clear hK D F
          go_simp
          exact HK.out _ _ FC.out (Below.refl _ _) rfl
        · intro a w F D
          have dg : GB true (a.tmps.getD 45 undef) w := D ⟨22, .guard⟩ (by simp) rfl _ _ rfl rfl
          have o2 := get_of ((F.at 2 (by kernel_rfl)).trans T2.out) (by simp [undef])
          have hg := gotk_up (HK2.out) F.cls
          have FC := Lib.hid F.cls
          refine ⟨wanted_some rfl rfl (get_of dg (by simp [undef])), fun K hK => ?_⟩
          have HK := Lib.hid hK
          clear hK D F dg
          replace hg := Lib.hid hg
          go_simp
          exact HK.out _ _ FC.out (Below.refl _ _) hg.out
        · intro a w F D
          have dg : GB true (a.tmps.getD 45 undef) w := D ⟨22, .guard⟩ (by simp) rfl _ _ rfl rfl
          have o3 := get_of ((F.at 3 (by kernel_rfl)).trans T3.out) (by simp [undef])
          have c0 := blkv (below_via HB5.out F.cls) p0
          have c1 := blkv (below_via HB5.out F.cls) p1
          have c2 := blkv (below_via HB5.out F.cls) p2
          have c3 := blkv (below_via HB5.out F.cls) p3
          have hg := GotA.mk rfl HV1.out (HRY1.out _ (below_via HB5.out F.cls))
          have FC := Lib.hid F.cls
          refine ⟨wanted_some rfl rfl (get_of dg (by simp [undef])), fun K hK => ?_⟩
          have HK := Lib.hid hK
          clear hK D F dg
          replace hg := Lib.hid hg
          go_simp
          exact HK.out _ _ FC.out (Below.refl _ _) hg.out
        · intro a w F D
          have dg : GB true (a.tmps.getD 45 undef) w := D ⟨22, .guard⟩ (by simp) rfl _ _ rfl rfl
          obtain ⟨y47, e47, v47, r47⟩ : GotA (numV ⟨#[49]⟩) (a.tmps.getD 47 undef) w := (D ⟨24, .data⟩ (by simp) rfl _ _ rfl rfl)
          replace e47 := get_of e47 (by simp [AV.val, undef])
          have hg := gs1 (w := w) v47 r47
          have FC := Lib.hid F.cls
          refine ⟨wanted_some rfl rfl (get_of dg (by simp [undef])), fun K hK => ?_⟩
          have HK := Lib.hid hK
          clear hK D F dg
          replace hg := Lib.hid hg
          go_simp
          exact HK.out _ _ (below_al FC.out) (below_al (Below.refl _ _)) hg.out
        · intro a w F D
          have dg : GB true (a.tmps.getD 45 undef) w := D ⟨22, .guard⟩ (by simp) rfl _ _ rfl rfl
          obtain ⟨k46, e46, hK46⟩ : GotK [⟨#[97]⟩] (a.tmps.getD 46 undef) w := (D ⟨23, .data⟩ (by simp) rfl _ _ rfl rfl)
          replace e46 := get_of e46 (by simp [undef])
          obtain ⟨b48, ys48, e48, l48, hB48, r48⟩ : GotS [numV ⟨#[49]⟩] (a.tmps.getD 48 undef) w := (D ⟨25, .data⟩ (by simp) rfl _ _ rfl rfl)
          replace e48 := get_of e48 (by simp [undef])
          have HC := Lib.hid (tab_s hK46 l48 hB48 r48)
          clear hK46 l48 hB48 r48
          have FC := Lib.hid F.cls
          refine ⟨wanted_some rfl rfl (get_of dg (by simp [undef])), fun K hK => ?_⟩
          have HK := Lib.hid hK
          clear hK D F dg
          go_simp
          refine (HC.out).mono ?_
          rintro e w' ⟨y, rfl, hv, hr, hb⟩
          exact HK.out _ _ (below_via FC.out hb) hb ⟨y, rfl, hv, hr⟩
        · intro a w F D
          have dg : GB true (a.tmps.getD 45 undef) w := D ⟨22, .guard⟩ (by simp) rfl _ _ rfl rfl
          have hg := gotk_new w [⟨#[98]⟩, ⟨#[99]⟩]
          have FC := Lib.hid F.cls
          refine ⟨wanted_some rfl rfl (get_of dg (by simp [undef])), fun K hK => ?_⟩
          have HK := Lib.hid hK
          clear hK D F dg
          replace hg := Lib.hid hg
          go_simp
          exact HK.out _ _ (below_al FC.out) (below_al (Below.refl _ _)) hg.out
        · intro a w F D
          have dg : GB true (a.tmps.getD 45 undef) w := D ⟨22, .guard⟩ (by simp) rfl _ _ rfl rfl
          have o4 := get_of ((F.at 4 (by kernel_rfl)).trans T4.out) (by simp [undef])
          have c0 := blkv (below_via HB5.out F.cls) q0
          have c1 := blkv (below_via HB5.out F.cls) q1
          have c2 := blkv (below_via HB5.out F.cls) q2
          have c3 := blkv (below_via HB5.out F.cls) q3
          have hg := GotA.mk rfl HV2.out (HRY2.out _ (below_via HB5.out F.cls))
          have FC := Lib.hid F.cls
          refine ⟨wanted_some rfl rfl (get_of dg (by simp [undef])), fun K hK => ?_⟩
          have HK := Lib.hid hK
          clear hK D F dg
          replace hg := Lib.hid hg
          go_simp
          exact HK.out _ _ FC.out (Below.refl _ _) hg.out
        · intro a w F D
          have dg : GB true (a.tmps.getD 45 undef) w := D ⟨22, .guard⟩ (by simp) rfl _ _ rfl rfl
          have FC := Lib.hid F.cls
          refine ⟨wanted_some rfl rfl (get_of dg (by simp [undef])), fun K hK => ?_⟩
          have HK := Lib.hid hK
          clear hK D F dg
          go_simp
          refine (num21_c _ ⟨#[51]⟩).mono ?_
          rintro e w' ⟨y, rfl, hv, hr, hb⟩
          exact HK.out _ _ (below_via FC.out hb) hb ⟨y, rfl, hv, hr⟩
        · intro a w F D
          have dg : GB true (a.tmps.getD 45 undef) w := D ⟨22, .guard⟩ (by simp) rfl _ _ rfl rfl
          obtain ⟨y51, e51, v51, r51⟩ : GotA (numV ⟨#[50]⟩) (a.tmps.getD 51 undef) w := (D ⟨28, .data⟩ (by simp) rfl _ _ rfl rfl)
          replace e51 := get_of e51 (by simp [AV.val, undef])
          obtain ⟨y52, e52, v52, r52⟩ : GotA (numV ⟨#[51]⟩) (a.tmps.getD 52 undef) w := (D ⟨29, .data⟩ (by simp) rfl _ _ rfl rfl)
          replace e52 := get_of e52 (by simp [AV.val, undef])
          have hg := gs2 (w := w) v51 r51 v52 r52
          have FC := Lib.hid F.cls
          refine ⟨wanted_some rfl rfl (get_of dg (by simp [undef])), fun K hK => ?_⟩
          have HK := Lib.hid hK
          clear hK D F dg
          replace hg := Lib.hid hg
          go_simp
          exact HK.out _ _ (below_al FC.out) (below_al (Below.refl _ _)) hg.out
        · intro a w F D
          have dg : GB true (a.tmps.getD 45 undef) w := D ⟨22, .guard⟩ (by simp) rfl _ _ rfl rfl
          obtain ⟨k50, e50, hK50⟩ : GotK [⟨#[98]⟩, ⟨#[99]⟩] (a.tmps.getD 50 undef) w := (D ⟨27, .data⟩ (by simp) rfl _ _ rfl rfl)
          replace e50 := get_of e50 (by simp [undef])
          obtain ⟨b53, ys53, e53, l53, hB53, r53⟩ : GotS [numV ⟨#[50]⟩, numV ⟨#[51]⟩] (a.tmps.getD 53 undef) w := (D ⟨30, .data⟩ (by simp) rfl _ _ rfl rfl)
          replace e53 := get_of e53 (by simp [undef])
          have HC := Lib.hid (tab_s hK50 l53 hB53 r53)
          clear hK50 l53 hB53 r53
          have FC := Lib.hid F.cls
          refine ⟨wanted_some rfl rfl (get_of dg (by simp [undef])), fun K hK => ?_⟩
          have HK := Lib.hid hK
          clear hK D F dg
          go_simp
          refine (HC.out).mono ?_
          rintro e w' ⟨y, rfl, hv, hr, hb⟩
          exact HK.out _ _ (below_via FC.out hb) hb ⟨y, rfl, hv, hr⟩
        · intro a w F D
          have dg : GB true (a.tmps.getD 45 undef) w := D ⟨22, .guard⟩ (by simp) rfl _ _ rfl rfl
          obtain ⟨y49, e49, v49, r49⟩ : GotA (tabV [⟨#[97]⟩] [numV ⟨#[49]⟩]) (a.tmps.getD 49 undef) w := (D ⟨26, .data⟩ (by simp) rfl _ _ rfl rfl)
          replace e49 := get_of e49 (by simp [AV.val, undef])
          obtain ⟨y54, e54, v54, r54⟩ : GotA (tabV [⟨#[98]⟩, ⟨#[99]⟩] [numV ⟨#[50]⟩, numV ⟨#[51]⟩]) (a.tmps.getD 54 undef) w := (D ⟨31, .data⟩ (by simp) rfl _ _ rfl rfl)
          replace e54 := get_of e54 (by simp [AV.val, undef])
          have FC := Lib.hid F.cls
          refine ⟨wanted_some rfl rfl (get_of dg (by simp [undef])), fun K hK => ?_⟩
          have HK := Lib.hid hK
          clear hK D F dg
          go_simp
          refine (are_v near_3 rfl v49 v54 (show (tabV [⟨#[97]⟩] [numV ⟨#[49]⟩]).w ≤ 1048576 by simp only [wts]; decide) (show (tabV [⟨#[98]⟩, ⟨#[99]⟩] [numV ⟨#[50]⟩, numV ⟨#[51]⟩]).w ≤ 1048576 by simp only [wts]; decide) r49 r54).mono ?_
          rintro e w' ⟨rfl, hb⟩
          exact HK.out _ _ (below_via FC.out hb) hb rfl
        · intro a w F D
          have dg : GB true (a.tmps.getD 45 undef) w := D ⟨22, .guard⟩ (by simp) rfl _ _ rfl rfl
          have e55 : GB false (a.tmps.getD 55 undef) w := (D ⟨32, .data⟩ (by simp) rfl _ _ rfl rfl)
          replace e55 := get_of e55 (by simp [undef])
          have FC := Lib.hid F.cls
          refine ⟨wanted_some rfl rfl (get_of dg (by simp [undef])), fun K hK => ?_⟩
          have HK := Lib.hid hK
          clear hK D F dg
          go_simp
          exact HK.out _ _ FC.out (Below.refl _ _) rfl
        · intro a w F D
          have e45 : GB true (a.tmps.getD 45 undef) w := (D ⟨22, .data⟩ (by simp) rfl _ _ rfl rfl)
          replace e45 := get_of e45 (by simp [undef])
          have e56 : GB true (a.tmps.getD 56 undef) w := (D ⟨33, .data⟩ (by simp) rfl _ _ rfl rfl)
          replace e56 := get_of e56 (by simp [undef])
          have FC := Lib.hid F.cls
          refine ⟨wanted_none rfl, fun K hK => ?_⟩
          have HK := Lib.hid hK
          clear hK D F
          go_simp
          exact HK.out _ _ FC.out (Below.refl _ _) rfl
        · intro a w F D
          have e57 : GB true (a.tmps.getD 57 undef) w := (D ⟨34, .data⟩ (by simp) rfl _ _ rfl rfl)
          replace e57 := get_of e57 (by simp [undef])
          have FC := Lib.hid F.cls
          refine ⟨wanted_none rfl, fun K hK => ?_⟩
          have HK := Lib.hid hK
          clear hK D F
          go_simp
          exact HK.out _ _ FC.out (Below.refl _ _) rfl
        · intro a w F D
          have dg : GB true (a.tmps.getD 58 undef) w := D ⟨35, .guard⟩ (by simp) rfl _ _ rfl rfl
          have o3 := get_of ((F.at 3 (by kernel_rfl)).trans T3.out) (by simp [undef])
          have c0 := blkv (below_via HB5.out F.cls) p0
          have c1 := blkv (below_via HB5.out F.cls) p1
          have c2 := blkv (below_via HB5.out F.cls) p2
          have c3 := blkv (below_via HB5.out F.cls) p3
          have hg := GotA.mk rfl HV1.out (HRY1.out _ (below_via HB5.out F.cls))
          have FC := Lib.hid F.cls
          refine ⟨wanted_some rfl rfl (get_of dg (by simp [undef])), fun K hK => ?_⟩
          have HK := Lib.hid hK
          clear hK D F dg
          replace hg := Lib.hid hg
          go_simp
          exact HK.out _ _ FC.out (Below.refl _ _) hg.out
        · intro a w F D
          have dg : GB true (a.tmps.getD 58 undef) w := D ⟨35, .guard⟩ (by simp) rfl _ _ rfl rfl
          have o4 := get_of ((F.at 4 (by kernel_rfl)).trans T4.out) (by simp [undef])
          have c0 := blkv (below_via HB5.out F.cls) q0
          have c1 := blkv (below_via HB5.out F.cls) q1
          have c2 := blkv (below_via HB5.out F.cls) q2
          have c3 := blkv (below_via HB5.out F.cls) q3
          have hg := GotA.mk rfl HV2.out (HRY2.out _ (below_via HB5.out F.cls))
          have FC := Lib.hid F.cls
          refine ⟨wanted_some rfl rfl (get_of dg (by simp [undef])), fun K hK => ?_⟩
          have HK := Lib.hid hK
          clear hK D F dg
          replace hg := Lib.hid hg
          go_simp
          exact HK.out _ _ FC.out (Below.refl _ _) hg.out
        · intro a w F D
          have dg : GB true (a.tmps.getD 58 undef) w := D ⟨35, .guard⟩ (by simp) rfl _ _ rfl rfl
          obtain ⟨y59, e59, v59, r59⟩ : GotA (numV ⟨#[49]⟩) (a.tmps.getD 59 undef) w := (D ⟨36, .data⟩ (by simp) rfl _ _ rfl rfl)
          replace e59 := get_of e59 (by simp [AV.val, undef])
          obtain ⟨y60, e60, v60, r60⟩ : GotA (numV ⟨#[50]⟩) (a.tmps.getD 60 undef) w := (D ⟨37, .data⟩ (by simp) rfl _ _ rfl rfl)
          replace e60 := get_of e60 (by simp [AV.val, undef])
          have FC := Lib.hid F.cls
          refine ⟨wanted_some rfl rfl (get_of dg (by simp [undef])), fun K hK => ?_⟩
          have HK := Lib.hid hK
          clear hK D F dg
          go_simp
          refine (are_v near_4 rfl v59 v60 (show (numV ⟨#[49]⟩).w ≤ 1048576 by simp only [wts]; decide) (show (numV ⟨#[50]⟩).w ≤ 1048576 by simp only [wts]; decide) r59 r60).mono ?_
          rintro e w' ⟨rfl, hb⟩
          exact HK.out _ _ (below_via FC.out hb) hb rfl
        · intro a w F D
          have dg : GB true (a.tmps.getD 58 undef) w := D ⟨35, .guard⟩ (by simp) rfl _ _ rfl rfl
          have e61 : GB false (a.tmps.getD 61 undef) w := (D ⟨38, .data⟩ (by simp) rfl _ _ rfl rfl)
          replace e61 := get_of e61 (by simp [undef])
          have FC := Lib.hid F.cls
          refine ⟨wanted_some rfl rfl (get_of dg (by simp [undef])), fun K hK => ?_⟩
          have HK := Lib.hid hK
          clear hK D F dg
          go_simp
          exact HK.out _ _ FC.out (Below.refl _ _) rfl
        · intro a w F D
          have e58 : GB true (a.tmps.getD 58 undef) w := (D ⟨35, .data⟩ (by simp) rfl _ _ rfl rfl)
          replace e58 := get_of e58 (by simp [undef])
          have e62 : GB true (a.tmps.getD 62 undef) w := (D ⟨39, .data⟩ (by simp) rfl _ _ rfl rfl)
          replace e62 := get_of e62 (by simp [undef])
          have FC := Lib.hid F.cls
          refine ⟨wanted_none rfl, fun K hK => ?_⟩
          have HK := Lib.hid hK
          clear hK D F
          go_simp
          exact HK.out _ _ FC.out (Below.refl _ _) rfl
        · intro a w F D
          have e63 : GB true (a.tmps.getD 63 undef) w := (D ⟨40, .data⟩ (by simp) rfl _ _ rfl rfl)
          replace e63 := get_of e63 (by simp [undef])
          have FC := Lib.hid F.cls
          refine ⟨wanted_none rfl, fun K hK => ?_⟩
          have HK := Lib.hid hK
          clear hK D F
          go_simp
          exact HK.out _ _ FC.out (Below.refl _ _) rfl
        · intro a w F D
          have dg : GB true (a.tmps.getD 64 undef) w := D ⟨41, .guard⟩ (by simp) rfl _ _ rfl rfl
          have FC := Lib.hid F.cls
          refine ⟨wanted_some rfl rfl (get_of dg (by simp [undef])), fun K hK => ?_⟩
          have HK := Lib.hid hK
          clear hK D F dg
          go_simp
          refine (list21_nil _).mono ?_
          rintro e w' ⟨y, rfl, hv, hr, hb⟩
          exact HK.out _ _ (below_via FC.out hb) hb ⟨y, rfl, hv, hr⟩
        · intro a w F D
          have dg : GB true (a.tmps.getD 64 undef) w := D ⟨41, .guard⟩ (by simp) rfl _ _ rfl rfl
          have o3 := get_of ((F.at 3 (by kernel_rfl)).trans T3.out) (by simp [undef])
          have c0 := blkv (below_via HB5.out F.cls) p0
          have c1 := blkv (below_via HB5.out F.cls) p1
          have c2 := blkv (below_via HB5.out F.cls) p2
          have c3 := blkv (below_via HB5.out F.cls) p3
          have hg := GotA.mk rfl HV1.out (HRY1.out _ (below_via HB5.out F.cls))
          have FC := Lib.hid F.cls
          refine ⟨wanted_some rfl rfl (get_of dg (by simp [undef])), fun K hK => ?_⟩
          have HK := Lib.hid hK
          clear hK D F dg
          replace hg := Lib.hid hg
          go_simp
          exact HK.out _ _ FC.out (Below.refl _ _) hg.out
        · intro a w F D
          have dg : GB true (a.tmps.getD 64 undef) w := D ⟨41, .guard⟩ (by simp) rfl _ _ rfl rfl
          obtain ⟨y66, e66, v66, r66⟩ : GotA (numV ⟨#[49]⟩) (a.tmps.getD 66 undef) w := (D ⟨43, .data⟩ (by simp) rfl _ _ rfl rfl)
          replace e66 := get_of e66 (by simp [AV.val, undef])
          have hg := gs1 (w := w) v66 r66
          have FC := Lib.hid F.cls
          refine ⟨wanted_some rfl rfl (get_of dg (by simp [undef])), fun K hK => ?_⟩
          have HK := Lib.hid hK
          clear hK D F dg
          replace hg := Lib.hid hg
          go_simp
          exact HK.out _ _ (below_al FC.out) (below_al (Below.refl _ _)) hg.out
        · intro a w F D
          have dg : GB true (a.tmps.getD 64 undef) w := D ⟨41, .guard⟩ (by simp) rfl _ _ rfl rfl
          obtain ⟨b67, ys67, e67, l67, hB67, r67⟩ : GotS [numV ⟨#[49]⟩] (a.tmps.getD 67 undef) w := (D ⟨44, .data⟩ (by simp) rfl _ _ rfl rfl)
          replace e67 := get_of e67 (by simp [undef])
          have HC := Lib.hid (list21_s l67 hB67 r67)
          clear l67 hB67 r67
          have FC := Lib.hid F.cls
          refine ⟨wanted_some rfl rfl (get_of dg (by simp [undef])), fun K hK => ?_⟩
          have HK := Lib.hid hK
          clear hK D F dg
          go_simp
          refine (HC.out).mono ?_
          rintro e w' ⟨y, rfl, hv, hr, hb⟩
          exact HK.out _ _ (below_via FC.out hb) hb ⟨y, rfl, hv, hr⟩
        · intro a w F D
          have dg : GB true (a.tmps.getD 64 undef) w := D ⟨41, .guard⟩ (by simp) rfl _ _ rfl rfl
          obtain ⟨y65, e65, v65, r65⟩ : GotA (listV []) (a.tmps.getD 65 undef) w := (D ⟨42, .data⟩ (by simp) rfl _ _ rfl rfl)
          replace e65 := get_of e65 (by simp [AV.val, undef])
          obtain ⟨y68, e68, v68, r68⟩ : GotA (listV [numV ⟨#[49]⟩]) (a.tmps.getD 68 undef) w := (D ⟨45, .data⟩ (by simp) rfl _ _ rfl rfl)
          replace e68 := get_of e68 (by simp [AV.val, undef])
          have FC := Lib.hid F.cls
          refine ⟨wanted_some rfl rfl (get_of dg (by simp [undef])), fun K hK => ?_⟩
          have HK := Lib.hid hK
          clear hK D F dg
          go_simp
          refine (are_v near_5 rfl v65 v68 (show (listV []).w ≤ 1048576 by simp only [wts]; decide) (show (listV [numV ⟨#[49]⟩]).w ≤ 1048576 by simp only [wts]; decide) r65 r68).mono ?_
          rintro e w' ⟨rfl, hb⟩
          exact HK.out _ _ (below_via FC.out hb) hb rfl
        · intro a w F D
          have e64 : GB true (a.tmps.getD 64 undef) w := (D ⟨41, .data⟩ (by simp) rfl _ _ rfl rfl)
          replace e64 := get_of e64 (by simp [undef])
          have e69 : GB true (a.tmps.getD 69 undef) w := (D ⟨46, .data⟩ (by simp) rfl _ _ rfl rfl)
          replace e69 := get_of e69 (by simp [undef])
          have FC := Lib.hid F.cls
          refine ⟨wanted_none rfl, fun K hK => ?_⟩
          have HK := Lib.hid hK
          clear hK D F
          go_simp
          exact HK.out _ _ FC.out (Below.refl _ _) rfl
        · intro a w F D
          have e70 : GB true (a.tmps.getD 70 undef) w := (D ⟨47, .data⟩ (by simp) rfl _ _ rfl rfl)
          replace e70 := get_of e70 (by simp [undef])
          have FC := Lib.hid F.cls
          refine ⟨wanted_none rfl, fun K hK => ?_⟩
          have HK := Lib.hid hK
          clear hK D F
          go_simp
          exact HK.out _ _ FC.out (Below.refl _ _) rfl
        · intro a w F D
          have dg : GB true (a.tmps.getD 71 undef) w := D ⟨48, .guard⟩ (by simp) rfl _ _ rfl rfl
          have o3 := get_of ((F.at 3 (by kernel_rfl)).trans T3.out) (by simp [undef])
          have c0 := blkv (below_via HB5.out F.cls) p0
          have c1 := blkv (below_via HB5.out F.cls) p1
          have c2 := blkv (below_via HB5.out F.cls) p2
          have c3 := blkv (below_via HB5.out F.cls) p3
          have hg := GotA.mk rfl HV1.out (HRY1.out _ (below_via HB5.out F.cls))
          have FC := Lib.hid F.cls
          refine ⟨wanted_some rfl rfl (get_of dg (by simp [undef])), fun K hK => ?_⟩
          have HK := Lib.hid hK
          clear hK D F dg
          replace hg := Lib.hid hg
          go_simp
          exact HK.out _ _ FC.out (Below.refl _ _) hg.out
        · intro a w F D
          have dg : GB true (a.tmps.getD 71 undef) w := D ⟨48, .guard⟩ (by simp) rfl _ _ rfl rfl
          have o4 := get_of ((F.at 4 (by kernel_rfl)).trans T4.out) (by simp [undef])
          have c0 := blkv (below_via HB5.out F.cls) q0
          have c1 := blkv (below_via HB5.out F.cls) q1
          have c2 := blkv (below_via HB5.out F.cls) q2
          have c3 := blkv (below_via HB5.out F.cls) q3
          have hg := GotA.mk rfl HV2.out (HRY2.out _ (below_via HB5.out F.cls))
          have FC := Lib.hid F.cls
          refine ⟨wanted_some rfl rfl (get_of dg (by simp [undef])), fun K hK => ?_⟩
          have HK := Lib.hid hK
          clear hK D F dg
          replace hg := Lib.hid hg
          go_simp
          exact HK.out _ _ FC.out (Below.refl _ _) hg.out
        · intro a w F D
          have dg : GB true (a.tmps.getD 71 undef) w := D ⟨48, .guard⟩ (by simp) rfl _ _ rfl rfl
          have FC := Lib.hid F.cls
          refine ⟨wanted_some rfl rfl (get_of dg (by simp [undef])), fun K hK => ?_⟩
          have HK := Lib.hid hK
          clear hK D F dg
          go_simp
          refine (num21_c _ ⟨#[51]⟩).mono ?_
          rintro e w' ⟨y, rfl, hv, hr, hb⟩
          exact HK.out _ _ (below_via FC.out hb) hb ⟨y, rfl, hv, hr⟩
        · intro a w F D
          have dg : GB true (a.tmps.getD 71 undef) w := D ⟨48, .guard⟩ (by simp) rfl _ _ rfl rfl
          obtain ⟨y72, e72, v72, r72⟩ : GotA (numV ⟨#[49]⟩) (a.tmps.getD 72 undef) w := (D ⟨49, .data⟩ (by simp) rfl _ _ rfl rfl)
          replace e72 := get_of e72 (by simp [AV.val, undef])
          obtain ⟨y73, e73, v73, r73⟩ : GotA (numV ⟨#[50]⟩) (a.tmps.getD 73 undef) w := (D ⟨50, .data⟩ (by simp) rfl _ _ rfl rfl)
          replace e73 := get_of e73 (by simp [AV.val, undef])
          obtain ⟨y74, e74, v74, r74⟩ : GotA (numV ⟨#[51]⟩) (a.tmps.getD 74 undef) w := (D ⟨51, .data⟩ (by simp) rfl _ _ rfl rfl)
          replace e74 := get_of e74 (by simp [AV.val, undef])
          have hg := gs3 (w := w) v72 r72 v73 r73 v74 r74
          have FC := Lib.hid F.cls
          refine ⟨wanted_some rfl rfl (get_of dg (by simp [undef])), fun K hK => ?_⟩
          have HK := Lib.hid hK
          clear hK D F dg
          replace hg := Lib.hid hg
          go_simp
          exact HK.out _ _ (below_al FC.out) (below_al (Below.refl _ _)) hg.out
        · intro a w F D
          have dg : GB true (a.tmps.getD 71 undef) w := D ⟨48, .guard⟩ (by simp) rfl _ _ rfl rfl
          obtain ⟨b75, ys75, e75, l75, hB75, r75⟩ : GotS [numV ⟨#[49]⟩, numV ⟨#[50]⟩, numV ⟨#[51]⟩] (a.tmps.getD 75 undef) w := (D ⟨52, .data⟩ (by simp) rfl _ _ rfl rfl)
          replace e75 := get_of e75 (by simp [undef])
          have HC := Lib.hid (list21_s l75 hB75 r75)
          clear l75 hB75 r75
          have FC := Lib.hid F.cls
          refine ⟨wanted_some rfl rfl (get_of dg (by simp [undef])), fun K hK => ?_⟩
          have HK := Lib.hid hK
          clear hK D F dg
          go_simp
          refine (HC.out).mono ?_
          rintro e w' ⟨y, rfl, hv, hr, hb⟩
          exact HK.out _ _ (below_via FC.out hb) hb ⟨y, rfl, hv, hr⟩
        · intro a w F D
          have dg : GB true (a.tmps.getD 71 undef) w := D ⟨48, .guard⟩ (by simp) rfl _ _ rfl rfl
          obtain ⟨b5, ys5, e5, l5, hB5, r5⟩ := gots_up HS5.out F.cls
          have o5 := get_of ((F.at 5 (by kernel_rfl)).trans (T5.out.trans e5)) (by simp [undef])
          have hg : GotS [listV [numV ⟨#[49]⟩, numV ⟨#[50]⟩], listV [numV ⟨#[57]⟩], listV [numV ⟨#[49]⟩, numV ⟨#[50]⟩, numV ⟨#[52]⟩]] (.slice (some ⟨b5, 0, none⟩) 3 3) w := ⟨b5, ys5, rfl, l5, hB5, r5⟩
          clear l5 hB5 r5 e5
          have FC := Lib.hid F.cls
          refine ⟨wanted_some rfl rfl (get_of dg (by simp [undef])), fun K hK => ?_⟩
          have HK := Lib.hid hK
          clear hK D F dg
          replace hg := Lib.hid hg
          go_simp
          exact HK.out _ _ FC.out (Below.refl _ _) hg.out
        · intro a w F D
          have dg : GB true (a.tmps.getD 71 undef) w := D ⟨48, .guard⟩ (by simp) rfl _ _ rfl rfl
          obtain ⟨y76, e76, v76, r76⟩ : GotA (listV [numV ⟨#[49]⟩, numV ⟨#[50]⟩, numV ⟨#[51]⟩]) (a.tmps.getD 76 undef) w := (D ⟨53, .data⟩ (by simp) rfl _ _ rfl rfl)
          replace e76 := get_of e76 (by simp [AV.val, undef])
          obtain ⟨b77, ys77, e77, l77, hB77, r77⟩ : GotS [listV [numV ⟨#[49]⟩, numV ⟨#[50]⟩], listV [numV ⟨#[57]⟩], listV [numV ⟨#[49]⟩, numV ⟨#[50]⟩, numV ⟨#[52]⟩]] (a.tmps.getD 77 undef) w := (D ⟨54, .data⟩ (by simp) rfl _ _ rfl rfl)
          replace e77 := get_of e77 (by simp [undef])
          have HC := Lib.hid (nearest_s near21_0 v76 (show (listV [numV ⟨#[49]⟩, numV ⟨#[50]⟩, numV ⟨#[51]⟩]).w ≤ 1048576 by simp only [wts]; decide) r76 l77 hB77 r77 row21_w)
          clear l77 hB77 r77
          have FC := Lib.hid F.cls
          refine ⟨wanted_some rfl rfl (get_of dg (by simp [undef])), fun K hK => ?_⟩
          have HK := Lib.hid hK
          clear hK D F dg
          go_simp
          refine (HC.out).mono ?_
          rintro e w' ⟨rfl, hb⟩
          exact HK.out _ _ (below_via FC.out hb) hb rfl
        · intro a w F D
          have dg : GB true (a.tmps.getD 71 undef) w := D ⟨48, .guard⟩ (by simp) rfl _ _ rfl rfl
          have e78 : GI 0 (a.tmps.getD 78 undef) w := (D ⟨55, .data⟩ (by simp) rfl _ _ rfl rfl)
          replace e78 := get_of e78 (by simp [undef])
          have FC := Lib.hid F.cls
          refine ⟨wanted_some rfl rfl (get_of dg (by simp [undef])), fun K hK => ?_⟩
          have HK := Lib.hid hK
          clear hK D F dg
          go_simp
          exact HK.out _ _ FC.out (Below.refl _ _) rfl
        · intro a w F D
          have e71 : GB true (a.tmps.getD 71 undef) w := (D ⟨48, .data⟩ (by simp) rfl _ _ rfl rfl)
          replace e71 := get_of e71 (by simp [undef])
          have e79 : GB true (a.tmps.getD 79 undef) w := (D ⟨56, .data⟩ (by simp) rfl _ _ rfl rfl)
          replace e79 := get_of e79 (by simp [undef])
          have FC := Lib.hid F.cls
          refine ⟨wanted_none rfl, fun K hK => ?_⟩
          have HK := Lib.hid hK
          clear hK D F
          go_simp
          exact HK.out _ _ FC.out (Below.refl _ _) rfl
        · intro a w F D
          have e80 : GB true (a.tmps.getD 80 undef) w := (D ⟨57, .data⟩ (by simp) rfl _ _ rfl rfl)
          replace e80 := get_of e80 (by simp [undef])
          have FC := Lib.hid F.cls
          refine ⟨wanted_none rfl, fun K hK => ?_⟩
          have HK := Lib.hid hK
          clear hK D F
          go_simp
          exact HK.out _ _ FC.out (Below.refl _ _) rfl
    case rest6 =>
      intro e a6 w6 h
      cases e with
      | normal =>
        obtain ⟨g1, g2, g3⟩ := h
        obtain ⟨tm6, df6⟩ := a6
        simp only at g1 g2
        subst g2
        clear HRY1 HRY2 HV1 HV2 p0 p1 p2 p3 q0 q1 q2 q3
        go_wp2_with fail
        go_ret
        exact ⟨by rw [g1], below_via HBW5.out g3⟩
      | ret => exact h.elim
      | exit _ => exact h.elim
      | goto _ => exact h.elim
      | panic _ => exact h.elim
      | outgrown => exact h.elim
   | ret => exact h.elim
   | exit _ => exact h.elim
   | goto _ => exact h.elim
   | panic _ => exact h.elim
   | outgrown => exact h.elim
end Go.Proofs.YtmhkacafilpliaaGreat
