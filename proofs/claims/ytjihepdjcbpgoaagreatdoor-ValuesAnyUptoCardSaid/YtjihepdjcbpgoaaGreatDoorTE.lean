/-
  inarchref14.find and Get: as values.Get's plain function. Conditions: the tree lies in memory, its weight is bounded.
-/
import Derived.Test.YtjihepdjcbpgoaaGreatDoorVE
import Derived.Test.YtjihepdjcbpgoaaGreatDoorVU
import Derived.Test.YtjihepdjcbpgoaaGreatDoorVN
import Derived.Test.YtjihepdjcbpgoaaGreatDoorRB
namespace Go.Proofs.YtjihepdjcbpgoaaGreatDoor
open Go.RowKit Go.Sort

theorem idxB_first {s : ByteArray} : ∀ {ks : List ByteArray} {m : Nat}, ks[m]? = some s → s ∉ ks.take m → idxB ks s = some m
  | [], m, h, _ => by simp at h
  | k :: ks, 0, h, _ => by
    simp at h
    simp [idxB, h]
  | k :: ks, m + 1, h, hn => by
    simp only [List.getElem?_cons_succ] at h
    simp only [List.take_succ_cons, List.mem_cons, not_or] at hn
    simp [idxB, Ne.symm hn.1, idxB_first h hn.2]
theorem not_take_snoc {s k : ByteArray} {ks : List ByteArray} {m : Nat} (h : ks[m]? = some k) (hn : s ∉ ks.take m) (hne : k ≠ s) : s ∉ ks.take (m + 1) := by
  rw [List.take_add_one, h]
  simp only [Option.toList, List.mem_append, List.mem_singleton, not_or]
  exact ⟨hn, Ne.symm hne⟩

theorem s_drew {N : Nat} {W : World} : (∀ b o, b < N → W.drew.cell? ⟨b, o, none⟩ = W.cell? ⟨b, o, none⟩) ∧ Below N W W.drew := ⟨fun _ _ _ => rfl, (Below.refl _ _).drew⟩

set_option maxRecDepth 100000 in
set_option maxHeartbeats 3200000 in
theorem find14_c (x : AV) (s : ByteArray) (w : World) (hx : Rd w x) (hlk : x.ks.length ≤ 1048576) : Calls Tryz.prog 62 #[x.val, .string s] w (Ret (.int .i64 (idxI x.ks s)) w) := by
  have HX := Lib.hid hx
  clear hx
  have hb0 : Below w.heap.size w (w.alloc (.cells #[.int .u8 x.k, .string x.t, .slice x.la x.l.length x.lc, .slice x.ka x.ks.length x.kc] 26)) := (Below.refl _ _).alloc (Nat.le_refl _) _
  have HB0 := Lib.hid hb0
  have HBX := Lib.hid (heap_alloc_new w (.cells #[.int .u8 x.k, .string x.t, .slice x.la x.l.length x.lc, .slice x.ka x.ks.length x.kc] 26))
  clear hb0
  go_enter Tryz.func62, Tryz.ntmps62
  go_wp2_with fail
  go_loopw [5] (fun i wr => ∃ m : Nat, m ≤ x.ks.length ∧ i = .int .i64 m ∧ s ∉ x.ks.take m ∧ Below (w.heap.size + 1) (w.alloc (.cells #[.int .u8 x.k, .string x.t, .slice x.la x.l.length x.lc, .slice x.ka x.ks.length x.kc] 26)) wr) (fun i _ => x.ks.length - (intOf i).toNat)
  case atStart => exact ⟨0, Nat.zero_le _, by go_num, by simp, Below.refl _ _⟩
  case round =>
    obtain ⟨m, hm, rfl, hn, hbr⟩ := hrel
    have hbw : Below w.heap.size w wr := HB0.out.trans (hbr.mono (by omega))
    have hsr := hbr.size
    rw [World.size_alloc] at hsr
    have hbx := (hbr.block w.heap.size (by omega)).trans HBX.out
    obtain ⟨q0, q1, q2, q3, -, -, -, -⟩ := vbox4 hbx
    have hl0 : w.heap.size < wr.heap.size := by omega
    have HBR := Lib.hid hbr
    have HBW := Lib.hid hbw
    have HN := Lib.hid hn
    by_cases hlt : m < x.ks.length
    · have hk : x.ks[m]? = some x.ks[m] := List.getElem?_eq_getElem hlt
      generalize x.ks[m] = k at hk
      obtain ⟨b2, o2, h2, -, -, g2, c2⟩ := key_at HX.out.keys hk
      rw [← hbw.cell (p := ⟨_, _, none⟩) g2] at c2
      have hlt' : (m : Int) < (x.ks.length : Int) := by omega
      have hm0 : (0 : Int) ≤ (m : Int) := by omega
      have g2' : b2 < wr.heap.size := by omega
      have hwm : IntKind.i64.wrap ((m : Int) + 1) = ((m + 1 : Nat) : Int) := by rw [IntWalk.i64_in _ (by omega)]; omega
      rw [h2] at q3
      by_cases he : k = s
      · subst he
        have hi := Lib.hid (show idxI x.ks k = (m : Int) by rw [idxI, idxB_first hk hn])
        have hbd : (k.toList == k.toList) = true := by simp
        clear h2 hbr hbw hn hbx hk
        go_wp2_with fail
        go_ret
        exact ⟨by rw [hi.out]; rfl, HBW.out⟩
      · have hbe : ¬ k.toList = s.toList := fun e => he (bl_eq e)
        have hbd : (k.toList == s.toList) = false := beq_false_of_ne hbe
        have hn' := Lib.hid (not_take_snoc hk hn he)
        clear h2 hbr hbw hn hbx hk
        go_wp2_with fail
        exact ⟨⟨m + 1, by omega, by go_num, hn'.out, HBR.out⟩, by simp [intOf]; omega⟩
    · obtain rfl : m = x.ks.length := by omega
      have hge : ¬ (x.ks.length : Int) < (x.ks.length : Int) := by omega
      have hi := Lib.hid (show idxI x.ks s = -1 from idxI_none (by rw [List.take_length] at hn; exact hn))
      clear hbr hbw hn hbx
      go_wp2_with fail
      go_ret
      exact ⟨by rw [hi.out]; rfl, HBW.out⟩

/-- What the reference's Get hands back: the element itself. -/
def RGetPost (x : AV) (s : ByteArray) (w : World) (e : Ending) (w' : World) : Prop :=
  ((∃ y : AV, y ∈ x.l ∧ x.v.get s = some y.v ∧ e = .returned (.tuple #[y.val, .bool true])) ∨ (x.v.get s = none ∧ e = .returned (.tuple #[zAV.val, .bool false]))) ∧ Below w.heap.size w w'
theorem rget_fin {x : AV} {s : ByteArray} {w w' : World} (hn : x.v.get s = none) (hb : Below w.heap.size w w') : RGetPost x s w (.returned (.tuple #[.agg #[.int .u8 0, .string ⟨#[]⟩, .slice none 0 0, .slice none 0 0], .bool false])) w' := ⟨.inr ⟨hn, rfl⟩, hb⟩

set_option maxRecDepth 100000 in
set_option maxHeartbeats 3200000 in
theorem rget_c (x : AV) (s : ByteArray) (w : World) (hx : Rd w x) (hw : x.w ≤ 1048576) : Calls Tryz.prog 26 #[x.val, .string s] w (RGetPost x s w) := by
  have HM := fun W (h : Below w.heap.size w W) => Lib.hid (rmay_c x W (hx.up h) hw)
  have hlkb : x.ks.length ≤ 1048576 := by have := x.w_ks; omega
  have hlb : x.l.length ≤ 1048576 := by have := x.w_l; omega
  have HX := Lib.hid hx
  by_cases hk : x.k = 8
  · have n8 : (x.k != 8) = false := by simp [hk]
    cases hm : x.v.may with
    | false =>
      have HN := Lib.hid (show x.v.get s = none by rw [Val.get, if_neg (by simp [hm])])
      rw [hm] at HM
      clear hk hm hx
      go_enter Tryz.func26, Tryz.ntmps26
      go_wp2_with (first
        | (go_at_call 13; refine (HM _ (by repeat (first | exact Below.refl _ _ | refine Below.drew ?_ | refine below_drewN ?_ _ | refine Below.alloc ?_ (by first | omega | (simp; done) | (simp; omega)) _))).out.mono ?_; rintro e w1 ⟨rfl, hb⟩
           obtain ⟨g1, g2, g3, g4⟩ := two_new hb
           obtain ⟨s0, s1, s2, s3, y0, y1, y2, y3⟩ := vbox4 g2))
      refine bodyPost_ret (v := .tuple #[.agg #[.int .u8 0, .string ⟨#[]⟩, .slice none 0 0, .slice none 0 0], .bool false]) (by simp [results, Tryz.results26, go_sem, s0, s1, s2, s3]) rfl (rget_fin HN.out (below4 g4 (by omega)))
    | true =>
      obtain ⟨hkv, -, hlv, hnv⟩ : x.v.k = 8 ∧ x.v.t.toList = [] ∧ x.v.ks.length = x.v.l.length ∧ x.v.ks.Nodup := by
        have := shape_map (within_sh (n := 256) (by rw [Val.may_eq]; exact hm)) (by rw [AV.v_k]; exact hk)
        exact ⟨by rw [AV.v_k]; exact hk, this⟩
      rw [hm] at HM
      have HIX := fun W (h : Below w.heap.size w W) => Lib.hid (find14_c x s W (hx.up h) hlkb)
      cases hi : idxB x.ks s with
      | none =>
        have HN := Lib.hid (show x.v.get s = none by rw [Val.get, if_pos ⟨hkv, hm⟩, AV.v_ks, hi]; rfl)
        have hii : idxI x.ks s = -1 := by rw [idxI, hi]
        rw [hii] at HIX
        clear hk hm hx hi hkv hlv hnv hii
        go_enter Tryz.func26, Tryz.ntmps26
        go_wp2_with (first
        | (go_at_call 13; refine (HM _ (by repeat (first | exact Below.refl _ _ | refine Below.drew ?_ | refine below_drewN ?_ _ | refine Below.alloc ?_ (by first | omega | (simp; done) | (simp; omega)) _))).out.mono ?_; rintro e w1 ⟨rfl, hb⟩
           obtain ⟨g1, g2, g3, g4⟩ := two_new hb
           have gl : w.heap.size < w1.heap.size := by omega
           obtain ⟨q0, q1, q2, q3, -, -, -, -⟩ := vbox4 g1)
        | (go_at_call 62; refine (HIX _ g4).out.mono ?_; rintro e w2 ⟨rfl, hb2⟩
           obtain ⟨s0, s1, s2, s3, y0, y1, y2, y3⟩ := vbox4 ((hb2.block (w.heap.size + 1) (by omega)).trans g2)))
        refine bodyPost_ret (v := .tuple #[.agg #[.int .u8 0, .string ⟨#[]⟩, .slice none 0 0, .slice none 0 0], .bool false]) (by simp [results, Tryz.results26, go_sem, s0, s1, s2, s3]) rfl (rget_fin HN.out (below4 (below_via g4 hb2) (by omega)))
      | some i =>
        have hks := idxB_some hi
        have hil : i < x.l.length := by
          have h1 := (List.getElem?_eq_some_iff.1 hks).1
          rw [AV.v_ks, AV.v_l, List.length_map] at hlv
          omega
        have hk2 : x.l[i]? = some x.l[i] := List.getElem?_eq_getElem hil
        have hmem : x.l[i] ∈ x.l := List.getElem_mem hil
        have hgv : x.v.get s = some x.l[i].v := by rw [Val.get, if_pos ⟨hkv, hm⟩, AV.v_ks, hi, AV.v_l]; simp [hk2]
        generalize x.l[i] = y at *
        obtain ⟨b, off, hla, -, hb1, hb2, h0, h1, h2, h3⟩ := vals_at hx.sl hk2
        have hii : idxI x.ks s = (i : Int) := by rw [idxI, hi]
        rw [hii] at HIX
        have hi0 : ¬ (i : Int) < 0 := by omega
        have hil' : (i : Int) < (x.l.length : Int) := by omega
        have HG := Lib.hid hgv
        have HLA := Lib.hid hla
        have HMEM := Lib.hid hmem
        clear hk hm hx hi hkv hlv hnv hks hk2 hmem hgv hla hii
        go_enter Tryz.func26, Tryz.ntmps26
        go_upto_region 3 with (first
        | (go_at_call 13; refine (HM _ (by repeat (first | exact Below.refl _ _ | refine Below.drew ?_ | refine below_drewN ?_ _ | refine Below.alloc ?_ (by first | omega | (simp; done) | (simp; omega)) _))).out.mono ?_; rintro e w1 ⟨rfl, hb⟩
           obtain ⟨g1, g2, g3, g4⟩ := two_new hb
           have gl : w.heap.size < w1.heap.size := by omega
           obtain ⟨q0, q1, q2, q3, -, -, -, -⟩ := vbox4 g1)
        | (go_at_call 62; refine (HIX _ g4).out.mono ?_; rintro e w2 ⟨rfl, hbf⟩
           have hbw2 := below_via g4 hbf
           have hs2 := hbf.size
           have k1 := (hbf.block w.heap.size gl).trans g1
           have k2 := (hbf.block (w.heap.size + 1) (by omega)).trans g2))
        rw [← hbw2.cell (p := ⟨_, _, none⟩) hb2] at h0 h1 h2 h3
        clear q0 q1 q2 q3
        obtain ⟨q0, q1, q2, q3, -, -, -, -⟩ := vbox4 k1
        rw [HLA.out] at q2
        have gb : b < w2.heap.size := by omega
        have hN : w.heap.size + 1 ≤ w2.heap.size := by omega
        have hnb : b < w.heap.size + 1 := by omega
        have hlw : w.heap.size < w2.heap.size := by omega
        have hl1w := lt_of_block k2
        have K2 := Lib.hid k2
        have HIX2 := fun W h => Lib.hid (show Calls Tryz.prog 62 #[.agg #[.int .u8 x.k, .string x.t, .slice (some ⟨b, off, none⟩) x.l.length x.lc, .slice x.ka x.ks.length x.kc], .string s] W (Ret (.int .i64 (i : Int)) W) by have h' := (HIX W h).out; simp only [AV.val, HLA.out] at h'; exact h')
        have HBW2 := Lib.hid hbw2
        clear k1 k2 hbw2 hbf hb g1 g2 g3 g4 HM
        go_region_held3 (fun w' => (∀ b o, b < w.heap.size + 1 → w'.cell? ⟨b, o, none⟩ = w2.cell? ⟨b, o, none⟩) ∧ Below (w.heap.size + 1) w2 w')
          (first
            | (with_reducible exact Q1.out)
            | (with_reducible exact s_put4 hN Q1.out (by omega))
            | (with_reducible exact s_drew))
          (first
            | (go_at_call 62; refine (HIX2 _ (s_below (N := w.heap.size + 1) HBW2.out (by omega) (by assumption))).out.mono ?_; rintro e w3 ⟨rfl, hb3⟩
               have Q1 := Lib.hid (s_step hN (by assumption) hb3)
               have hs3 := Q1.out.2.size
               obtain ⟨s0, s1, s2, s3, y0, y1, y2, y3⟩ := vbox4 ((hb3.block (w.heap.size + 1) (by first | (simp; omega) | omega)).trans K2.out)))
        all_goals go_wp2_with fail
        refine bodyPost_ret (v := .tuple #[y.val, .bool true]) (by simp [results, Tryz.results26, go_sem, s0, s1, s2, s3]) rfl ⟨.inl ⟨y, HMEM.out, HG.out, rfl⟩, below4 (HBW2.out.trans (Q1.out.2.mono (by omega))) (by omega)⟩
  · have n8 : (x.k != 8) = true := by simp [hk]
    have HN := Lib.hid (show x.v.get s = none by rw [Val.get, if_neg (by rw [AV.v_k]; simp [hk])])
    clear hk hx HM
    go_enter Tryz.func26, Tryz.ntmps26
    go_wp2_with fail
    refine bodyPost_ret (v := .tuple #[.agg #[.int .u8 0, .string ⟨#[]⟩, .slice none 0 0, .slice none 0 0], .bool false]) (by simp [results, Tryz.results26, go_sem]) rfl (rget_fin HN.out (by repeat (first | exact Below.refl _ _ | refine Below.drew ?_ | refine below_drewN ?_ _ | refine Below.setCell ?_ (by first | omega | (simp; done) | (simp; omega)) _ | refine Below.alloc ?_ (by first | omega | (simp; done) | (simp; omega)) _)))
end Go.Proofs.YtjihepdjcbpgoaaGreatDoor
