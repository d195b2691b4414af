/-
  values.Get: contract. Conditions: the tree lies in memory, its weight is bounded.
-/
import Derived.Test.YtjihepdjcbpgoaaGreatDoorVS
import Derived.Test.YtjihepdjcbpgoaaGreatDoorO5
namespace Go.Proofs.YtjihepdjcbpgoaaGreatDoor
open Go.RowKit Go.Sort

theorem idx_from (x : ByteArray) : ∀ (zs : List ByteArray) (i : Nat), Lib.idxFromS zs x i = match idxB zs x with | some k => ((i + k : Nat) : Int) | none => -1
  | [], _ => rfl
  | z :: zs, i => by
    simp only [Lib.idxFromS, idxB]
    split
    · rfl
    · rw [idx_from x zs (i + 1)]
      cases idxB zs x with
      | none => rfl
      | some k => simp only [Option.map_some]; congr 1; omega
theorem idx_eq (zs : List ByteArray) (x : ByteArray) : Lib.idxOfS zs x = match idxB zs x with | some k => (k : Int) | none => -1 := by
  rw [Lib.idxOfS, idx_from]
  cases idxB zs x with
  | none => rfl
  | some k => simp
/-- slices.Index at texts. -/
theorem index_c (w : World) (A : Option Addr) (c : Nat) (ks : List ByteArray) (lo hi : Nat) (h : SlE strE 1 w lo hi A ks) (hn : ks.length ≤ 1048576) (s : ByteArray) :
    Calls Tryz.prog 60 #[.slice A ks.length c, .string s] w fun e w' => e = .returned (.int .i64 (match idxB ks s with | some k => (k : Int) | none => -1)) ∧ w' = w := by
  rw [← idx_eq]
  rcases Nat.eq_zero_or_pos ks.length with h0 | h0
  · have := List.eq_nil_of_length_eq_zero h0
    subst this
    exact Tryz.slices_Index_string_empty A c s w
  · obtain ⟨b, off, rfl, h1, h2, h3, h4⟩ := h h0
    have := Tryz.slices_Index_string b off ks.length c ks s w (Nat.le_refl _) (by omega) (fun j hj => by
      have := h4 j ks[j] (List.getElem?_eq_getElem hj) 0 (.string ks[j]) rfl
      rw [Nat.mul_one, Nat.add_zero] at this
      rw [List.getD_eq_getElem?_getD, List.getElem?_eq_getElem hj]
      exact this)
    rwa [List.take_length] at this

theorem two_new {w W : World} {o1 o2 : Obj} (hb : Below ((w.alloc o1).alloc o2).heap.size ((w.alloc o1).alloc o2) W) : W.heap[w.heap.size]? = some o1 ∧ W.heap[w.heap.size + 1]? = some o2 ∧ w.heap.size + 1 < W.heap.size ∧ Below w.heap.size w W := by
  have hs := hb.size
  simp only [World.size_alloc] at hs
  have h2 := heap_alloc_new (w.alloc o1) o2
  rw [World.size_alloc] at h2
  exact ⟨(hb.block w.heap.size (by simp; omega)).trans ((heap_alloc_old _ _ _ (by simp)).trans (heap_alloc_new w o1)), (hb.block (w.heap.size + 1) (by simp)).trans h2, by omega, (((Below.refl _ _).alloc (Nat.le_refl _) _).alloc (by simp) _).trans (hb.mono (by simp; omega))⟩
def GetPost (v : Val) (s : ByteArray) (w : World) (e : Ending) (w' : World) : Prop :=
  ∃ z : AV, e = .returned (.tuple #[z.val, .bool (v.get s).isSome]) ∧ (∀ y, v.get s = some y → z.v = y) ∧ (v.get s = none → z = zAV) ∧ z.In w' w.heap.size w'.heap.size ∧ Below w.heap.size w w'

theorem get_fin {v : Val} {s : ByteArray} {w w' : World} (hn : v.get s = none) (hb : Below w.heap.size w w') : GetPost v s w (.returned (.tuple #[.agg #[.int .u8 0, .string ⟨#[]⟩, .slice none 0 0, .slice none 0 0], .bool false])) w' :=
  ⟨zAV, by rw [hn]; rfl, (fun y h => by rw [hn] at h; cases h), fun _ => rfl, ⟨SlE.nil, SlE.nil, by simp [zAV], fun y hy => absurd hy List.not_mem_nil⟩, hb⟩

set_option maxRecDepth 100000 in
set_option maxHeartbeats 3200000 in
theorem get_c (x : AV) (s : ByteArray) (w : World) (hx : Rd w x) (hw : x.w ≤ 1048576) : Calls Tryz.prog 25 #[x.val, .string s] w (GetPost x.v s w) := by
  have HM := fun W (h : Below w.heap.size w W) => Lib.hid (may_c W x (hx.up h) hw)
  have hlkb : x.ks.length ≤ 1048576 := by have := x.w_ks; omega
  have hlb : x.l.length ≤ 1048576 := by have := x.w_l; omega
  have HX := Lib.hid hx
  by_cases hk : x.k = 8
  · have n8 : (x.k != 8) = false := by simp [hk]
    cases hm : x.v.may with
    | false =>
      have HN := Lib.hid (show x.v.get s = none by rw [Val.get, if_neg (by simp [hm])])
      rw [hm] at HM
      clear hk hm hx
      go_enter Tryz.func25, Tryz.ntmps25
      go_wp2_with (first
        | (go_at_call 12; refine (HM _ (by repeat (first | exact Below.refl _ _ | refine Below.drew ?_ | refine below_drewN ?_ _ | refine Below.alloc ?_ (by first | omega | (simp; done) | (simp; omega)) _))).out.mono ?_; rintro e w1 ⟨rfl, hb⟩
           obtain ⟨g1, g2, g3, g4⟩ := two_new hb
           obtain ⟨s0, s1, s2, s3, y0, y1, y2, y3⟩ := vbox4 g2))
      refine bodyPost_ret (v := .tuple #[.agg #[.int .u8 0, .string ⟨#[]⟩, .slice none 0 0, .slice none 0 0], .bool false]) (by simp [results, Tryz.results25, go_sem, s0, s1, s2, s3]) rfl (get_fin HN.out (below4 g4 (by omega)))
    | true =>
      obtain ⟨hkv, -, hlv, hnv⟩ : x.v.k = 8 ∧ x.v.t.toList = [] ∧ x.v.ks.length = x.v.l.length ∧ x.v.ks.Nodup := by
        have := shape_map (within_sh (n := 256) (by rw [Val.may_eq]; exact hm)) (by rw [AV.v_k]; exact hk)
        exact ⟨by rw [AV.v_k]; exact hk, this⟩
      rw [hm] at HM
      have HIX := fun W (h : Below w.heap.size w W) => Lib.hid (index_c W x.ka x.kc x.ks 0 W.heap.size (hx.keys.up h) hlkb s)
      cases hi : idxB x.ks s with
      | none =>
        have HN := Lib.hid (show x.v.get s = none by rw [Val.get, if_pos ⟨hkv, hm⟩, AV.v_ks, hi]; rfl)
        rw [hi] at HIX
        clear hk hm hx hi hkv hlv hnv
        go_enter Tryz.func25, Tryz.ntmps25
        go_wp2_with (first
        | (go_at_call 12; refine (HM _ (by repeat (first | exact Below.refl _ _ | refine Below.drew ?_ | refine below_drewN ?_ _ | refine Below.alloc ?_ (by first | omega | (simp; done) | (simp; omega)) _))).out.mono ?_; rintro e w1 ⟨rfl, hb⟩
           obtain ⟨g1, g2, g3, g4⟩ := two_new hb
           have gl : w.heap.size < w1.heap.size := by omega
           obtain ⟨q0, q1, q2, q3, -, -, -, -⟩ := vbox4 g1
           obtain ⟨s0, s1, s2, s3, y0, y1, y2, y3⟩ := vbox4 g2)
        | (go_at_call 60; refine (HIX _ (by assumption)).out.mono ?_; rintro e w2 ⟨rfl, rfl⟩))
        refine bodyPost_ret (v := .tuple #[.agg #[.int .u8 0, .string ⟨#[]⟩, .slice none 0 0, .slice none 0 0], .bool false]) (by simp [results, Tryz.results25, go_sem, s0, s1, s2, s3]) rfl (get_fin HN.out (below4 g4 (by omega)))
      | some i =>
        have hks := idxB_some hi
        have hil : i < x.l.length := by
          have h1 := (List.getElem?_eq_some_iff.1 hks).1
          rw [AV.v_ks, AV.v_l, List.length_map] at hlv
          omega
        have hk2 : x.l[i]? = some x.l[i] := List.getElem?_eq_getElem hil
        have hmem : x.l[i] ∈ x.l := List.getElem_mem hil
        have hgv : x.v.get s = some x.l[i].v := by rw [Val.get, if_pos ⟨hkv, hm⟩, AV.v_ks, hi, AV.v_l]; simp [hk2]
        generalize x.l[i] = y at *
        obtain ⟨b, off, hla, -, hb1, hb2, h0, h1, h2, h3⟩ := vals_at hx.sl hk2
        have HO := fun W (h : Below w.heap.size w W) => Lib.hid (own_c y W (hx.kid_at h hmem) (Nat.le_trans (Nat.le_of_lt (AV.w_kid hmem)) hw))
        rw [hi] at HIX
        have hi0 : ¬ (i : Int) < 0 := by omega
        have hil' : (i : Int) < (x.l.length : Int) := by omega
        have HG := Lib.hid hgv
        have HLA := Lib.hid hla
        clear hk hm hx hi hkv hlv hnv hks hk2 hmem hgv hla
        go_enter Tryz.func25, Tryz.ntmps25
        go_wp2_with (first
        | (go_at_call 12; refine (HM _ (by repeat (first | exact Below.refl _ _ | refine Below.drew ?_ | refine below_drewN ?_ _ | refine Below.alloc ?_ (by first | omega | (simp; done) | (simp; omega)) _))).out.mono ?_; rintro e w1 ⟨rfl, hb⟩
           obtain ⟨g1, g2, g3, g4⟩ := two_new hb
           have gl : w.heap.size < w1.heap.size := by omega
           rw [← g4.cell (p := ⟨_, _, none⟩) hb2] at h0 h1 h2 h3
           obtain ⟨q0, q1, q2, q3, -, -, -, -⟩ := vbox4 g1
           rw [HLA.out] at q2
           have gb : b < w1.heap.size := by omega
           obtain ⟨s0, s1, s2, s3, y0, y1, y2, y3⟩ := vbox4 g2)
        | (go_at_call 60; refine (HIX _ (by assumption)).out.mono ?_; rintro e w2 ⟨rfl, rfl⟩)
        | (go_at_call 61; refine (HO _ (by assumption)).out.mono ?_; rintro e w3 ⟨z, rfl, hzv, hzi, hb3⟩
           obtain ⟨t0, t1, t2, t3, z0, z1, z2, z3⟩ := vbox4 ((hb3.block (w.heap.size + 1) (by omega)).trans g2)))
        have hs3 := hb3.size
        refine bodyPost_ret (v := .tuple #[z.val, .bool true]) (by simp [results, Tryz.results25, go_sem, t0, t1, t2, t3]) rfl ⟨z, by rw [HG.out]; rfl, fun u hu => ?_, (fun hn => by rw [HG.out] at hn; cases hn), ?_, ?_⟩
        · rw [HG.out] at hu; injection hu with hu; rw [← hu, hzv]
        · have e := (hzi.kept (w' := set4 w3 (w.heap.size + 1) (.int .u8 z.k) (.string z.t) (.slice z.la z.l.length z.lc) (.slice z.ka z.ks.length z.kc)) (Nat.le_of_eq size4.symm) fun q h1 _ _ => old4 (by omega)).widen (lo' := w.heap.size) (hi' := (set4 w3 (w.heap.size + 1) (.int .u8 z.k) (.string z.t) (.slice z.la z.l.length z.lc) (.slice z.ka z.ks.length z.kc)).heap.size) (Nat.le_of_lt gl) (Nat.le_of_eq size4.symm)
          exact e
        · exact below4 (g4.trans (hb3.mono (by omega))) (by omega)
  · have n8 : (x.k != 8) = true := by simp [hk]
    have HN := Lib.hid (show x.v.get s = none by rw [Val.get, if_neg (by rw [AV.v_k]; simp [hk])])
    clear hk hx HM
    go_enter Tryz.func25, Tryz.ntmps25
    go_wp2_with fail
    refine bodyPost_ret (v := .tuple #[.agg #[.int .u8 0, .string ⟨#[]⟩, .slice none 0 0, .slice none 0 0], .bool false]) (by simp [results, Tryz.results25, go_sem]) rfl (get_fin HN.out (by repeat (first | exact Below.refl _ _ | refine Below.drew ?_ | refine below_drewN ?_ _ | refine Below.setCell ?_ (by first | omega | (simp; done) | (simp; omega)) _ | refine Below.alloc ?_ (by first | omega | (simp; done) | (simp; omega)) _)))
end Go.Proofs.YtjihepdjcbpgoaaGreatDoor
