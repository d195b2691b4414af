/-
  inarchlaw24's list, object, lives: contracts. Condition: strconv's table of powers holds what its initialiser lays.
-/
import Derived.Test.YtcpdogjcofkpcaaDoorNH
import Derived.Test.YtcpdogjcofkpcaaDoorVL
namespace Go.Proofs.YtcpdogjcofkpcaaDoor
open Go.RowKit Go.Sort

set_option maxRecDepth 100000 in
set_option maxHeartbeats 3200000 in
theorem list24_c (w : World) (A : Option Addr) (c : Nat) (l : List ByteArray) (h : SlE strE 1 w 0 w.heap.size A l) (hl : l.length ≤ 1000) : Calls Tryd.prog 30 #[.slice A l.length c] w (MadeAs (listV l) w) := by
  have H := Lib.hid h
  clear h
  have hmk0 : Mk ((w.alloc (.cells #[.int .u8 0, .string ⟨#[]⟩, .slice none 0 0, .slice none 0 0] 26)).alloc (.cells #[.int .u8 7, .string ⟨#[]⟩, .slice none 0 0, .slice none 0 0] 26)) (w.heap.size + 1) (w.heap.size + 1 + 1) 7 ⟨#[]⟩ none 0 0 [] none 0 0 [] := by
    refine ⟨by omega, by simp, ?_, rfl, rfl, World.ownsRow_nil _ _ _ _, World.ownsRow_nil _ _ _ _, fun g hg => by simp [Value.ownBlock] at hg, fun y hy => by simp at hy⟩
    have h := heap_alloc_new (w.alloc (.cells #[.int .u8 0, .string ⟨#[]⟩, .slice none 0 0, .slice none 0 0] 26)) (.cells #[.int .u8 7, .string ⟨#[]⟩, .slice none 0 0, .slice none 0 0] 26)
    simpa using h
  have hb0 : Below (w.heap.size + 1) (w.alloc (.cells #[.int .u8 0, .string ⟨#[]⟩, .slice none 0 0, .slice none 0 0] 26)) ((w.alloc (.cells #[.int .u8 0, .string ⟨#[]⟩, .slice none 0 0, .slice none 0 0] 26)).alloc (.cells #[.int .u8 7, .string ⟨#[]⟩, .slice none 0 0, .slice none 0 0] 26)) := (Below.refl _ _).alloc (by simp) _
  have HM0 := Lib.hid hmk0
  clear hmk0
  go_enter Tryd.func30, Tryd.ntmps30
  go_wp2_with fail
  go_loopw [4] (fun i wr => ∃ (m : Nat) (ys : List AV) (a : Option Addr) (c : Nat), m ≤ l.length ∧ i = .int .i64 m ∧ Mk wr (w.heap.size + 1) (w.heap.size + 1 + 1) 7 ⟨#[]⟩ a m c ys none 0 0 [] ∧
      ys.map AV.v = (l.take m).map numV ∧ Below (w.heap.size + 1) (w.alloc (.cells #[.int .u8 0, .string ⟨#[]⟩, .slice none 0 0, .slice none 0 0] 26)) wr) (fun i _ => l.length - (intOf i).toNat)
  case atStart => exact ⟨0, [], none, 0, Nat.zero_le _, rfl, HM0.out, rfl, hb0⟩
  clear hb0 HM0
  case round =>
    obtain ⟨m, ys, a, c, hml, rfl, hmk, hys, hbx⟩ := hrel
    obtain ⟨o0, o1, o2, o3, o4, o5⟩ := hmk.cells
    have hrb := Lib.hid ((hbx.block w.heap.size (by omega)).trans (heap_alloc_new w (.cells #[.int .u8 0, .string ⟨#[]⟩, .slice none 0 0, .slice none 0 0] 26)))
    have hbw : Below w.heap.size w wr := ((Below.refl _ _).alloc (Nat.le_refl _) _).trans (hbx.mono (by omega))
    have hsz := hmk.size
    have HMK := Lib.hid hmk
    have HYS := Lib.hid hys
    clear hmk hys
    by_cases hlt : m < l.length
    · have hpk : l[m]? = some l[m] := List.getElem?_eq_getElem hlt
      have HT := Lib.hid (List.take_add_one (l := l) (i := m))
      rw [hpk] at HT
      generalize l[m] = y at *
      obtain ⟨b, off, hla, -, hb1, hb2, h0⟩ := key_at H.out hpk
      rw [← hbw.cell (p := ⟨_, _, none⟩) hb2] at h0
      have hlt' : (m : Int) < (l.length : Int) := by omega
      have hbb : b < wr.heap.size := Nat.lt_of_lt_of_le hb2 hbw.size
      rw [hla]
      clear hla hpk
      have hml2 : m < 16777216 := by omega
      have hobs : w.heap.size + 1 < wr.heap.size := by omega
      obtain ⟨a', c', W', hrun, p2, p5, hmk2, hbW, hsW⟩ := (HMK.out.below ((Below.refl _ _).drew)).push ⟨2, y, none, 0, [], none, 0, []⟩ (leaf_in (lo := w.heap.size + 1 + 1) (hi := w.heap.size + 1 + 1) 2 y (by omega)) (Nat.le_refl _) hsz (fun g _ => by omega) (fun g _ => by omega) hml2 _ rfl
      go_wp2_with fail
      go_region_law (first
        | (refine st_append (s := .tmp 13) (x := .tmp 19) rfl rfl (hrun _) ?_; clear hrun))
      all_goals
        go_wp2_with fail
        refine ⟨⟨m + 1, ys ++ [⟨2, y, none, 0, [], none, 0, []⟩], a', c', by omega, by go_num, hmk2, ?_, ?_⟩, by simp [intOf]; omega⟩
        · rw [List.map_append, HYS.out, HT.out]; simp [numV, AV.v_eq]
        · exact hbx.drew.trans ((hbW.mono (by omega)).trans ((Below.refl _ _).setCell (p := ⟨w.heap.size + 1, 2, none⟩) (by show w.heap.size + 1 ≤ w.heap.size + 1; omega) _))
    · obtain rfl : m = l.length := by omega
      have hge : ¬ (l.length : Int) < (l.length : Int) := by omega
      have hvv : ys.map AV.v = l.map numV := by rw [HYS.out, List.take_length]
      obtain ⟨s0, s1, s2, s3, f0, f1, f2, f3⟩ := vbox4 hrb.out
      have HVV := Lib.hid hvv
      clear hvv
      go_wp2_with fail
      refine bodyPost_ret (v := .agg #[.int .u8 7, .string ⟨#[]⟩, .slice a l.length c, .slice none 0 0]) (by simp [results, Tryd.results30, go_sem, s0, s1, s2, s3]) rfl ⟨⟨7, ⟨#[]⟩, a, c, ys, none, 0, []⟩, ?_, ?_, ?_, ?_⟩
      · show _ = Ending.returned (.agg #[.int .u8 7, .string ⟨#[]⟩, .slice a ys.length c, .slice none 0 0])
        rw [← HMK.out.len]
      · rw [AV.v_eq, HVV.out]; rfl
      · show AV.In (set4 wr w.heap.size _ _ _ _) _ _ _
        exact (HMK.out.done (by omega) (Nat.le_of_eq size4.symm) (fun q hq1 _ => old4 (by omega))).widen (by omega) (Nat.le_refl _)
      · show Below _ _ (set4 wr w.heap.size _ _ _ _)
        exact below4 hbw (by omega)

set_option maxRecDepth 100000 in
set_option maxHeartbeats 3200000 in
theorem object24_c (w : World) (A B : Option Addr) (n m c1 c2 : Nat) : Calls Tryd.prog 29 #[.slice A n c1, .slice B m c2] w (fun e w' => e = .returned (.agg #[.int .u8 8, .string ⟨#[]⟩, .slice B m c2, .slice A n c1]) ∧ Below w.heap.size w w') := by
  go_enter Tryd.func29, Tryd.ntmps29
  go_wp2_with fail
  refine bodyPost_ret (v := .agg #[.int .u8 8, .string ⟨#[]⟩, .slice B m c2, .slice A n c1]) (by simp [results, Tryd.results29, go_sem]) rfl ⟨rfl, (by repeat (first | exact Below.refl _ _ | refine Below.drew ?_ | refine below_drewN ?_ _ | refine Below.setCell ?_ (by first | omega | (simp; done) | (simp; omega)) _ | refine Below.alloc ?_ (by first | omega | (simp; done) | (simp; omega)) _))⟩
end Go.Proofs.YtcpdogjcofkpcaaDoor
