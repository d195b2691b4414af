/-
  inarchlaw24.lives: contract. Condition: strconv's table of powers holds what its initialiser lays.
-/
import Derived.Test.YtcpdogjcofkpcaaDoorNI
namespace Go.Proofs.YtcpdogjcofkpcaaDoor
open Go.RowKit Go.Sort

def GotL (v : Val) (w : World) (e : Ending) (w' : World) : Prop := ∃ y : AV, e = .returned y.val ∧ y.v = v ∧ Rd w' y ∧ Below w.heap.size w w'
def GotK (v : Val) (K : Obj) (w : World) (e : Ending) (w' : World) : Prop := ∃ y : AV, e = .returned y.val ∧ y.v = v ∧ Rd w' y ∧ Below w.heap.size w w' ∧ w'.heap[w.heap.size]? = some K
theorem list_b (w : World) (s : ByteArray) : Calls Tryd.prog 30 #[.slice (some ⟨w.heap.size, 0, none⟩) 1 1] (w.alloc (.cells #[.string s] 9)) (GotL (listV [s]) w) := by
  have hL := lit_sl (enc := strE) (size := 1) (l := [s]) (fun _ => rfl) (heap_alloc_new w (.cells #[.string s] 9))
  have hz := World.size_alloc w (.cells #[.string s] 9)
  refine (list24_c _ (some ⟨w.heap.size, 0, none⟩) 1 [s] (hL.widen (Nat.zero_le _) (by omega)) (by simp)).mono ?_
  rintro e w' ⟨y, rfl, hv, hi, hb⟩
  exact ⟨y, rfl, hv, Rd.up (hi.widen (Nat.zero_le _) (Nat.le_refl _)) (Below.refl _ _), ((Below.refl _ _).alloc (Nat.le_refl _) _).trans (hb.mono (by omega))⟩
theorem list_a (w : World) (K : Obj) (l : List ByteArray) (T : Array Value) (hT : T = (l.flatMap strE).toArray) (hl : l.length ≤ 1000) : Calls Tryd.prog 30 #[.slice (some ⟨w.heap.size + 1, 0, none⟩) l.length l.length] ((w.alloc K).alloc (.cells T 9)) (GotK (listV l) K w) := by
  subst hT
  have h0 := heap_alloc_new (w.alloc K) (.cells (l.flatMap strE).toArray 9)
  have hz : ((w.alloc K).alloc (.cells (l.flatMap strE).toArray 9)).heap.size = w.heap.size + 2 := by simp
  have hk : ((w.alloc K).alloc (.cells (l.flatMap strE).toArray 9)).heap[w.heap.size]? = some K := (heap_alloc_old _ _ _ (by simp)).trans (heap_alloc_new w K)
  rw [World.size_alloc] at h0
  have hL := lit_sl (enc := strE) (size := 1) (l := l) (fun _ => rfl) h0
  refine (list24_c _ (some ⟨w.heap.size + 1, 0, none⟩) l.length l (hL.widen (Nat.zero_le _) (by omega)) hl).mono ?_
  rintro e w' ⟨y, rfl, hv, hi, hb⟩
  exact ⟨y, rfl, hv, Rd.up (hi.widen (Nat.zero_le _) (Nat.le_refl _)) (Below.refl _ _), (((Below.refl _ _).alloc (Nat.le_refl _) _).alloc (by simp) _).trans (hb.mono (by omega)), (hb.block _ (by omega)).trans hk⟩
theorem list_a1 (w : World) (K : Obj) (s : ByteArray) : Calls Tryd.prog 30 #[.slice (some ⟨w.heap.size + 1, 0, none⟩) 1 1] ((w.alloc K).alloc (.cells #[.string s] 9)) (GotK (listV [s]) K w) := list_a w K [s] _ rfl (by simp)
theorem list_a2 (w : World) (K : Obj) (s t : ByteArray) : Calls Tryd.prog 30 #[.slice (some ⟨w.heap.size + 1, 0, none⟩) 2 2] ((w.alloc K).alloc (.cells #[.string s, .string t] 9)) (GotK (listV [s, t]) K w) := list_a w K [s, t] _ rfl (by simp)
def GotB (v : Val) (B K : Obj) (w : World) (e : Ending) (w' : World) : Prop := ∃ y : AV, e = .returned y.val ∧ y.v = v ∧ Rd w' y ∧ Below w.heap.size w w' ∧ w'.heap[w.heap.size]? = some B ∧ w'.heap[w.heap.size + 1]? = some K
theorem gotB {v : Val} {B K : Obj} {w : World} {e : Ending} {w' : World} (h : GotK v K (w.alloc B) e w') : GotB v B K w e w' := by
  obtain ⟨y, h1, h2, h3, h4, h5⟩ := h
  have hs := h4.size
  rw [World.size_alloc] at h4 h5
  exact ⟨y, h1, h2, h3, ((Below.refl _ _).alloc (Nat.le_refl _) _).trans (h4.mono (by omega)), (h4.block _ (by omega)).trans (heap_alloc_new w B), h5⟩
theorem list_d1 (w : World) (B K : Obj) (s : ByteArray) : Calls Tryd.prog 30 #[.slice (some ⟨w.heap.size + 1 + 1, 0, none⟩) 1 1] (((w.alloc B).alloc K).alloc (.cells #[.string s] 9)) (GotB (listV [s]) B K w) := by
  have h := list_a1 (w.alloc B) K s
  rw [World.size_alloc] at h
  exact h.mono fun _ _ => gotB
theorem list_d2 (w : World) (B K : Obj) (s t : ByteArray) : Calls Tryd.prog 30 #[.slice (some ⟨w.heap.size + 1 + 1, 0, none⟩) 2 2] (((w.alloc B).alloc K).alloc (.cells #[.string s, .string t] 9)) (GotB (listV [s, t]) B K w) := by
  have h := list_a2 (w.alloc B) K s t
  rw [World.size_alloc] at h
  exact h.mono fun _ _ => gotB
theorem obj_rd {W : World} {Lb Kb c1 c2 : Nat} {ys : List AV} {ks : List ByteArray} (hL : W.heap[Lb]? = some (.cells (ys.flatMap AV.enc).toArray 26 (0, 0))) (hK : W.heap[Kb]? = some (.cells (ks.flatMap strE).toArray 9 (0, 0))) (hr : ∀ y ∈ ys, Rd W y) : Rd W ⟨8, ⟨#[]⟩, some ⟨Lb, 0, none⟩, c1, ys, some ⟨Kb, 0, none⟩, c2, ks⟩ := by
  have h1 : Lb < W.heap.size := by
    rcases Nat.lt_or_ge Lb W.heap.size with h | h
    · exact h
    · rw [Array.getElem?_eq_none h] at hL; cases hL
  have h2 : Kb < W.heap.size := by
    rcases Nat.lt_or_ge Kb W.heap.size with h | h
    · exact h
    · rw [Array.getElem?_eq_none h] at hK; cases hK
  exact ⟨(lit_sl AV.enc_len hL).widen (Nat.zero_le _) (by omega), (lit_sl (enc := strE) (size := 1) (fun _ => rfl) hK).widen (Nat.zero_le _) (by omega), by simp, hr⟩

theorem blk_up {w W : World} {i : Nat} {o : Obj} (h : Below w.heap.size w W) (hk : w.heap[i]? = some o) : W.heap[i]? = some o := by
  have h1 : i < w.heap.size := by
    rcases Nat.lt_or_ge i w.heap.size with h | h
    · exact h
    · rw [Array.getElem?_eq_none h] at hk; cases hk
  exact (h.block i h1).trans hk
theorem new_up {w W : World} {o : Obj} (h : Below (w.alloc o).heap.size (w.alloc o) W) : W.heap[w.heap.size]? = some o := blk_up h (heap_alloc_new w o)
theorem via_new {w W : World} {o : Obj} (h : Below (w.alloc o).heap.size (w.alloc o) W) : Below w.heap.size w W := below_via ((Below.refl _ _).alloc (Nat.le_refl _) _) h
abbrev objB (L K n : Nat) : Obj := .cells #[.int .u8 8, .string ⟨#[]⟩, .slice (some ⟨L, 0, none⟩) n n, .slice (some ⟨K, 0, none⟩) n n] 26
abbrev objA (L K n : Nat) : Value := .agg #[.int .u8 8, .string ⟨#[]⟩, .slice (some ⟨L, 0, none⟩) n n, .slice (some ⟨K, 0, none⟩) n n]
/-- An object as it lies. -/
def IsObj (W : World) (L K n : Nat) (v : Val) : Prop := ∃ x : AV, x.val = objA L K n ∧ x.v = v ∧ Rd W x
theorem IsObj.up {W W' : World} {L K n : Nat} {v : Val} (h : IsObj W L K n v) (hb : Below W.heap.size W W') : IsObj W' L K n v := by
  obtain ⟨x, h1, h2, h3⟩ := h
  exact ⟨x, h1, h2, h3.up hb⟩
theorem obj2 {W : World} {L K : Nat} {y1 y2 : AV} {k1 k2 : ByteArray} {v : Val} (hL : W.heap[L]? = some (.cells #[.int .u8 y1.k, .string y1.t, .slice y1.la y1.l.length y1.lc, .slice y1.ka y1.ks.length y1.kc, .int .u8 y2.k, .string y2.t, .slice y2.la y2.l.length y2.lc, .slice y2.ka y2.ks.length y2.kc] 26 (0, 0))) (hK : W.heap[K]? = some (.cells #[.string k1, .string k2] 9 (0, 0))) (h1 : Rd W y1) (h2 : Rd W y2) (hv : objV [k1, k2] [y1.v, y2.v] = v) : IsObj W L K 2 v :=
  ⟨⟨8, ⟨#[]⟩, some ⟨L, 0, none⟩, 2, [y1, y2], some ⟨K, 0, none⟩, 2, [k1, k2]⟩, rfl, by rw [← hv, AV.v_eq]; rfl, obj_rd hL hK (by intro y hy; simp at hy; rcases hy with rfl | rfl; exact h1; exact h2)⟩
theorem obj3 {W : World} {L K : Nat} {y1 y2 y3 : AV} {k1 k2 k3 : ByteArray} {v : Val} (hL : W.heap[L]? = some (.cells #[.int .u8 y1.k, .string y1.t, .slice y1.la y1.l.length y1.lc, .slice y1.ka y1.ks.length y1.kc, .int .u8 y2.k, .string y2.t, .slice y2.la y2.l.length y2.lc, .slice y2.ka y2.ks.length y2.kc, .int .u8 y3.k, .string y3.t, .slice y3.la y3.l.length y3.lc, .slice y3.ka y3.ks.length y3.kc] 26 (0, 0))) (hK : W.heap[K]? = some (.cells #[.string k1, .string k2, .string k3] 9 (0, 0))) (h1 : Rd W y1) (h2 : Rd W y2) (h3 : Rd W y3) (hv : objV [k1, k2, k3] [y1.v, y2.v, y3.v] = v) : IsObj W L K 3 v :=
  ⟨⟨8, ⟨#[]⟩, some ⟨L, 0, none⟩, 3, [y1, y2, y3], some ⟨K, 0, none⟩, 3, [k1, k2, k3]⟩, rfl, by rw [← hv, AV.v_eq]; rfl, obj_rd hL hK (by intro y hy; simp at hy; rcases hy with rfl | rfl | rfl; exact h1; exact h2; exact h3)⟩

theorem e_wb : eb.w ≤ 1000 ∧ ex.w ≤ 1000 ∧ ey.w ≤ 1000 ∧ er.w ≤ 1000 := by
  have z0 : (⟨#[]⟩ : ByteArray).size = 0 := rfl
  have z1 : e1.size = 3 := rfl
  have z2 : e2.size = 3 := rfl
  have z3 : e3.size = 3 := rfl
  have za : ka.size = 1 := rfl
  have zb : kb.size = 1 := rfl
  have zc : kc.size = 1 := rfl
  have zd : kd.size = 1 := rfl
  refine ⟨?_, ?_, ?_, ?_⟩ <;> simp [eb, ex, ey, er, objV, listV, numV, Val.w_eq, z0, z1, z2, z3, za, zb, zc, zd]
theorem of_obj {W : World} {L K n L2 K2 n2 : Nat} {b x : Val} (hb : IsObj W L K n b) (hx : IsObj W L2 K2 n2 x) (wb : b.w ≤ 1000) (wx : x.w ≤ 1000) (hP : Pow W) {l : List (ByteArray × ByteArray)} (hl : ofV b x = l) : Calls Tryd.prog 16 #[objA L K n, objA L2 K2 n2] W (RensPost l W) := by
  obtain ⟨y, h1, h2, h3⟩ := hb
  obtain ⟨z, g1, g2, g3⟩ := hx
  subst h2 g2
  have h := of_c W y z h3 g3 (by show y.v.w ≤ _; omega) (by show z.v.w ≤ _; omega) hP
  rwa [hl, h1, g1] at h
theorem used_obj {W : World} {L K n L2 K2 n2 L3 K3 n3 : Nat} {b x r : Val} (hb : IsObj W L K n b) (hx : IsObj W L2 K2 n2 x) (hr : IsObj W L3 K3 n3 r) (wb : b.w ≤ 1000) (wx : x.w ≤ 1000) (wr : r.w ≤ 1000) (hP : Pow W) {l : List (ByteArray × ByteArray) × List (ByteArray × ByteArray)} (hl : usedV b x r = l) : Calls Tryd.prog 18 #[objA L K n, objA L2 K2 n2, objA L3 K3 n3] W (UsedPost l W) := by
  obtain ⟨y, h1, h2, h3⟩ := hb
  obtain ⟨z, g1, g2, g3⟩ := hx
  obtain ⟨u, r1, r2, r3⟩ := hr
  subst h2 g2 r2
  have h := ren_used_c W y z u h3 g3 r3 (by show y.v.w ≤ _; omega) (by show z.v.w ≤ _; omega) (by show u.v.w ≤ _; omega) hP
  rwa [hl, h1, g1, r1] at h
theorem of1_obj {W : World} {L K n L2 K2 n2 : Nat} {b x : Val} (hb : IsObj W L K n b) (hx : IsObj W L2 K2 n2 x) (wb : b.w ≤ 1000) (wx : x.w ≤ 1000) (hP : Pow W) {p q : ByteArray} (hl : ofV b x = [(p, q)]) : Calls Tryd.prog 16 #[objA L K n, objA L2 K2 n2] W
    (fun e w' => ∃ a f c, e = .returned (.slice (some ⟨a, f, none⟩) 1 c) ∧ a < w'.heap.size ∧ w'.cell? ⟨a, f, none⟩ = some (.string p) ∧ w'.cell? ⟨a, f + 1, none⟩ = some (.string q) ∧ Below W.heap.size W w') := (of_obj hb hx wb wx hP hl).mono fun e w' h => by
  obtain ⟨A, c, rfl, h1, h2, -⟩ := h
  obtain ⟨a, f, rfl, -, -, h3, h4, h5⟩ := ren_at h1 (k := 0) rfl
  rw [Nat.zero_mul, Nat.add_zero] at h4 h5
  exact ⟨a, f, c, rfl, h3, h4, h5, h2⟩
theorem of0_obj {W : World} {L K n L2 K2 n2 : Nat} {b x : Val} (hb : IsObj W L K n b) (hx : IsObj W L2 K2 n2 x) (wb : b.w ≤ 1000) (wx : x.w ≤ 1000) (hP : Pow W) (hl : ofV b x = []) : Calls Tryd.prog 16 #[objA L K n, objA L2 K2 n2] W
    (fun e w' => ∃ A c, e = .returned (.slice A 0 c) ∧ Below W.heap.size W w') := (of_obj hb hx wb wx hP hl).mono fun e w' h => by
  obtain ⟨A, c, rfl, h1, h2, -⟩ := h
  exact ⟨A, c, rfl, h2⟩
theorem used1_obj {W : World} {L K n L2 K2 n2 L3 K3 n3 : Nat} {b x r : Val} (hb : IsObj W L K n b) (hx : IsObj W L2 K2 n2 x) (hr : IsObj W L3 K3 n3 r) (wb : b.w ≤ 1000) (wx : x.w ≤ 1000) (wr : r.w ≤ 1000) (hP : Pow W) {p q : ByteArray} (hl : usedV b x r = ([(p, q)], [])) : Calls Tryd.prog 18 #[objA L K n, objA L2 K2 n2, objA L3 K3 n3] W
    (fun e w' => ∃ a f c B d, e = .returned (.tuple #[.slice (some ⟨a, f, none⟩) 1 c, .slice B 0 d]) ∧ a < w'.heap.size ∧ w'.cell? ⟨a, f, none⟩ = some (.string p) ∧ w'.cell? ⟨a, f + 1, none⟩ = some (.string q) ∧ Below W.heap.size W w') := (used_obj hb hx hr wb wx wr hP hl).mono fun e w' h => by
  obtain ⟨A, c, B, d, rfl, h1, -, h2⟩ := h
  obtain ⟨a, f, rfl, -, -, h3, h4, h5⟩ := ren_at h1 (k := 0) rfl
  rw [Nat.zero_mul, Nat.add_zero] at h4 h5
  exact ⟨a, f, c, B, d, rfl, h3, h4, h5, h2⟩
/-- The boxes of the example's four objects. -/
def Boxes (W : World) (p1 p2 p3 p4 : Nat) (o1 o2 o3 o4 : Obj) : Prop := W.heap[p1]? = some o1 ∧ W.heap[p2]? = some o2 ∧ W.heap[p3]? = some o3 ∧ W.heap[p4]? = some o4
theorem Boxes.up {W W' : World} {p1 p2 p3 p4 : Nat} {o1 o2 o3 o4 : Obj} (h : Boxes W p1 p2 p3 p4 o1 o2 o3 o4) (hb : Below W.heap.size W W') : Boxes W' p1 p2 p3 p4 o1 o2 o3 o4 := ⟨blk_up hb h.1, blk_up hb h.2.1, blk_up hb h.2.2.1, blk_up hb h.2.2.2⟩

set_option maxRecDepth 100000 in
set_option maxHeartbeats 12800000 in
theorem lives24_c (w : World) (hP : Pow w) : Calls Tryd.prog 15 #[] w (Ret (.bool true) w) := by
  go_enter Tryd.func15, Tryd.ntmps15
  go_wp2_with (first
    | (have kq13 := k12; go_at_call 29; (with_reducible refine (object24_c _ _ _ _ _ _ _).mono ?_); rintro e w13 ⟨rfl, hb13⟩
       have D13 := (Below.refl w13.heap.size w13).alloc (Nat.le_refl _) (objB w12.heap.size (w10.heap.size + 1) 2)
       have D12 := below_via hb13 D13
       have D11 := below_via hb12 (via_new D12)
       have D10 := below_via hb11 D11
       have D9 := below_via hb10 D10
       have D8 := below_via hb9 (via_new D9)
       have D7 := below_via hb8 D8
       have D6 := below_via hb7 D7
       have D5 := below_via hb6 D6
       have D4 := below_via hb5 (via_new D5)
       have D3 := below_via hb4 D4
       have D2 := below_via hb3 D3
       have D1 := below_via hb2 (via_new D2)
       have D0 := below_via hb1 D1
       have I1 : IsObj _ w2.heap.size w.heap.size 2 eb := obj2 (new_up D2) (blk_up D1 hk1) (hr1.up D1) (hr2.up (via_new D2)) (by rw [hv1, hv2]; rfl)
       have I2 : IsObj _ w5.heap.size (w3.heap.size + 1) 2 ex := obj2 (new_up D5) (blk_up D4 hk4) (hr4.up D4) (hr5.up (via_new D5)) (by rw [hv4, hv5]; rfl)
       have I3 : IsObj _ w9.heap.size (w6.heap.size + 1) 3 ey := obj3 (new_up D9) (blk_up D7 hk7) (hr7.up D7) (hr8.up D8) (hr9.up (via_new D9)) (by rw [hv7, hv8, hv9]; rfl)
       have I4 : IsObj _ w12.heap.size (w10.heap.size + 1) 2 er := obj2 (new_up D12) (blk_up D11 hk11) (hr11.up D11) (hr12.up (via_new D12)) (by rw [hv11, hv12]; rfl)
       have BX : Boxes _ w3.heap.size w6.heap.size w10.heap.size w13.heap.size _ _ _ _ := ⟨blk_up D4 hB4, blk_up D7 hB7, blk_up D11 hB11, heap_alloc_new w13 (objB w12.heap.size (w10.heap.size + 1) 2)⟩
       have HD := Lib.hid D0
       clear D13 D12 D11 D10 D9 D8 D7 D6 D5 D4 D3 D2 D1 D0 hk1 hk4 hk7 hk11 hB4 hB7 hB11 hv1 hv2 hv4 hv5 hv7 hv8 hv9 hv11 hv12 hr1 hr2 hr4 hr5 hr7 hr8 hr9 hr11 hr12 hb1 hb2 hb3 hb4 hb5 hb6 hb7 hb8 hb9 hb10 hb11 hb12 hb13
       have HI1 := Lib.hid I1
       have HI2 := Lib.hid I2
       have HI3 := Lib.hid I3
       have HI4 := Lib.hid I4
       have HBX := Lib.hid BX
       have b1 := vbox4 BX.1
       have b2 := vbox4 BX.2.1
       have b3 := vbox4 BX.2.2.1
       have b4 := vbox4 BX.2.2.2
       clear I1 I2 I3 I4 BX
       obtain ⟨b10, b11, b12, b13, -, -, -, -⟩ := b1
       obtain ⟨b20, b21, b22, b23, -, -, -, -⟩ := b2
       obtain ⟨b30, b31, b32, b33, -, -, -, -⟩ := b3
       obtain ⟨b40, b41, b42, b43, -, -, -, -⟩ := b4
       have k13 := trivial)
    | (have kq12 := k11; go_at_call 30; (with_reducible refine (list_b _ _).mono ?_); rintro e w12 ⟨y12, rfl, hv12, hr12, hb12⟩; have k12 := trivial)
    | (have kq11 := k10; go_at_call 30; (with_reducible refine (list_d2 _ _ _ _ _).mono ?_); rintro e w11 ⟨y11, rfl, hv11, hr11, hb11, hB11, hk11⟩; have k11 := trivial)
    | (have kq10 := k9; go_at_call 29; (with_reducible refine (object24_c _ _ _ _ _ _ _).mono ?_); rintro e w10 ⟨rfl, hb10⟩; have k10 := trivial)
    | (have kq9 := k8; go_at_call 30; (with_reducible refine (list_b _ _).mono ?_); rintro e w9 ⟨y9, rfl, hv9, hr9, hb9⟩; have k9 := trivial)
    | (have kq8 := k7; go_at_call 30; (with_reducible refine (list_b _ _).mono ?_); rintro e w8 ⟨y8, rfl, hv8, hr8, hb8⟩; have k8 := trivial)
    | (have kq7 := k6; go_at_call 30; (with_reducible refine (list_d1 _ _ _ _).mono ?_); rintro e w7 ⟨y7, rfl, hv7, hr7, hb7, hB7, hk7⟩; have k7 := trivial)
    | (have kq6 := k5; go_at_call 29; (with_reducible refine (object24_c _ _ _ _ _ _ _).mono ?_); rintro e w6 ⟨rfl, hb6⟩; have k6 := trivial)
    | (have kq5 := k4; go_at_call 30; (with_reducible refine (list_b _ _).mono ?_); rintro e w5 ⟨y5, rfl, hv5, hr5, hb5⟩; have k5 := trivial)
    | (have kq4 := k3; go_at_call 30; (with_reducible refine (list_d1 _ _ _ _).mono ?_); rintro e w4 ⟨y4, rfl, hv4, hr4, hb4, hB4, hk4⟩; have k4 := trivial)
    | (have kq3 := k2; go_at_call 29; (with_reducible refine (object24_c _ _ _ _ _ _ _).mono ?_); rintro e w3 ⟨rfl, hb3⟩; have k3 := trivial)
    | (have kq2 := k1; go_at_call 30; (with_reducible refine (list_b _ _).mono ?_); rintro e w2 ⟨y2, rfl, hv2, hr2, hb2⟩; have k2 := trivial)
    | (go_at_call 30; (with_reducible refine (list_a1 _ _ _).mono ?_); rintro e w1 ⟨y1, rfl, hv1, hr1, hb1, hk1⟩; have k1 := trivial))
  have z1 := e_wb.1
  have z2 := e_wb.2.1
  have z3 := e_wb.2.2.1
  have z4 := e_wb.2.2.2
  have HOF := fun W (h : Below (w13.alloc (objB w12.heap.size (w10.heap.size + 1) 2)).heap.size (w13.alloc (objB w12.heap.size (w10.heap.size + 1) 2)) W) => Lib.hid (of1_obj (HI1.out.up h) (HI2.out.up h) z1 z2 (hP.below (below_via HD.out h)) ex_of)
  have HOY := fun W (h : Below (w13.alloc (objB w12.heap.size (w10.heap.size + 1) 2)).heap.size (w13.alloc (objB w12.heap.size (w10.heap.size + 1) 2)) W) => Lib.hid (of0_obj (HI1.out.up h) (HI3.out.up h) z1 z3 (hP.below (below_via HD.out h)) ey_of)
  have HUS := fun W (h : Below (w13.alloc (objB w12.heap.size (w10.heap.size + 1) 2)).heap.size (w13.alloc (objB w12.heap.size (w10.heap.size + 1) 2)) W) => Lib.hid (used1_obj (HI1.out.up h) (HI2.out.up h) (HI4.out.up h) z1 z2 z4 (hP.below (below_via HD.out h)) er_used)
  have hab := Lib.hid (Below.refl (w13.alloc (objB w12.heap.size (w10.heap.size + 1) 2)).heap.size (w13.alloc (objB w12.heap.size (w10.heap.size + 1) 2)))
  have heq : ∀ W, (binOp .eql 39 (.agg #[.string ⟨#[97]⟩, .string ⟨#[99]⟩]) (.agg #[.string ⟨#[97]⟩, .string ⟨#[99]⟩])).run Tryd.prog W = .ok (.bool true) W := fun W => by have := eql_ren W (ka, kc) (ka, kc); rwa [decide_eq_true rfl] at this
  clear HI1 HI2 HI3 HI4 hP z1 z2 z3 z4 k1 k2 k3 k4 k5 k6 k7 k8 k9 k10 k11 k12 k13 kq2 kq3 kq4 kq5 kq6 kq7 kq8 kq9 kq10 kq11 kq12 kq13
  go_wp2_with (first
    | (go_at_call 16; first
        | ((with_reducible refine (HOF _ hab.out).out.mono ?_); rintro e w14 ⟨a1, f1, c1, rfl, hl1, t0, t1, ho1⟩
           have HO1 := Lib.hid ho1
           have BX := HBX.out.up ho1
           clear ho1 b10 b11 b12 b13 b20 b21 b22 b23 b30 b31 b32 b33 b40 b41 b42 b43
           have b1 := vbox4 BX.1
           have b2 := vbox4 BX.2.1
           have b3 := vbox4 BX.2.2.1
           have b4 := vbox4 BX.2.2.2
           obtain ⟨b10, b11, b12, b13, -, -, -, -⟩ := b1
           obtain ⟨b20, b21, b22, b23, -, -, -, -⟩ := b2
           obtain ⟨b30, b31, b32, b33, -, -, -, -⟩ := b3
           obtain ⟨b40, b41, b42, b43, -, -, -, -⟩ := b4
           clear BX))
    | (go_at_call 18
       (with_reducible refine (HUS _ HO1.out).out.mono ?_); rintro e w15 ⟨a2, f2, c2, B, d, rfl, hl2, u0, u1, ho2⟩
       have HO2 := Lib.hid ho2
       have BX := (HBX.out.up HO1.out).up ho2
       have hl1' := Nat.lt_of_lt_of_le hl1 ho2.size
       have t0' := (ho2.cell (p := ⟨_, _, none⟩) hl1).trans t0
       have t1' := (ho2.cell (p := ⟨_, _, none⟩) hl1).trans t1
       clear ho2 b10 b11 b12 b13 b20 b21 b22 b23 b30 b31 b32 b33 b40 b41 b42 b43
       have b1 := vbox4 BX.1
       have b2 := vbox4 BX.2.1
       have b3 := vbox4 BX.2.2.1
       have b4 := vbox4 BX.2.2.2
       obtain ⟨b10, b11, b12, b13, -, -, -, -⟩ := b1
       obtain ⟨b20, b21, b22, b23, -, -, -, -⟩ := b2
       obtain ⟨b30, b31, b32, b33, -, -, -, -⟩ := b3
       obtain ⟨b40, b41, b42, b43, -, -, -, -⟩ := b4
       clear BX))
  have hN : w15.heap.size ≤ w15.heap.size := Nat.le_refl _
  have l1 : w3.heap.size < w15.heap.size := World.block_lt_of_cell? w15 ⟨w3.heap.size, 0, none⟩ b10
  have l2 : w6.heap.size < w15.heap.size := World.block_lt_of_cell? w15 ⟨w6.heap.size, 0, none⟩ b20
  have l3 : w10.heap.size < w15.heap.size := World.block_lt_of_cell? w15 ⟨w10.heap.size, 0, none⟩ b30
  have l4 : w13.heap.size < w15.heap.size := World.block_lt_of_cell? w15 ⟨w13.heap.size, 0, none⟩ b40
  clear t0 t1 hl1 HOF HUS
  unfold ka at t0' u0
  unfold kc at t1' u1
  go_region_held3 (fun w' => (∀ b o, b < w15.heap.size → w'.cell? ⟨b, o, none⟩ = w15.cell? ⟨b, o, none⟩) ∧ Below w15.heap.size w15 w')
    (first | (with_reducible exact Q1.out) | exact ⟨fun _ _ _ => rfl, (Below.refl _ _).drew⟩)
    ((go_at_call 16; (with_reducible refine (HOY _ (below_via (below_via HO1.out HO2.out) (And.right (by assumption)))).out.mono ?_); rintro e w16 ⟨A3, c3, rfl, ho3⟩
      have Q1 := Lib.hid (s_step hN (by assumption) ho3)))
  go_wp2_with fail
  go_ret
  exact ⟨rfl, below_via (below_via (below_via HD.out HO1.out) HO2.out) Q1.out.2⟩
end Go.Proofs.YtcpdogjcofkpcaaDoor
