/-
  inarchref28.find and Names: as the program's Names. Conditions: the list lies in memory, lengths and weights are bounded.
  inarchref28.Names: as the program's Names. Conditions: the list lies in memory, lengths and weights are bounded.
  inarchlaw28.sameTexts and same, at rows that hold the same: true. Conditions: the rows lie in memory, lengths are bounded.
-/
import Derived.Test.YtcpdogjcofkpcaaGreatDoorTK
import Derived.Test.YtcpdogjcofkpcaaGreatDoorKP
namespace Go.Proofs.YtcpdogjcofkpcaaGreatDoor
open Go.RowKit Go.Sort

set_option maxRecDepth 100000 in
set_option maxHeartbeats 3200000 in
theorem find28_c (w : World) (A : Option Addr) (c : Nat) (ks : List ByteArray) (s : ByteArray) (lo hi : Nat) (h : SlE strE 1 w lo hi A ks) (hlk : ks.length ≤ 16777216) : Calls Tryz.prog 68 #[.slice A ks.length c, .string s] w (Ret (.int .i64 (idxI ks s)) w) := by
  have HX := Lib.hid h
  clear h
  go_enter Tryz.func68, Tryz.ntmps68
  go_wp2_with fail
  go_loopw [5] (fun i wr => ∃ m : Nat, m ≤ ks.length ∧ i = .int .i64 m ∧ s ∉ ks.take m ∧ Below w.heap.size w wr) (fun i _ => ks.length - (intOf i).toNat)
  case atStart => exact ⟨0, Nat.zero_le _, by go_num, by simp, Below.refl _ _⟩
  case round =>
    obtain ⟨m, hm, rfl, hn, hbw⟩ := hrel
    have hsr := hbw.size
    have HBW := Lib.hid hbw
    by_cases hlt : m < ks.length
    · have hk : ks[m]? = some ks[m] := List.getElem?_eq_getElem hlt
      generalize ks[m] = k at hk
      obtain ⟨b2, o2, h2, -, -, g2, c2⟩ := key_at HX.out hk
      rw [← hbw.cell (p := ⟨_, _, none⟩) g2] at c2
      have hlt' : (m : Int) < (ks.length : Int) := by omega
      have hm0 : (0 : Int) ≤ (m : Int) := by omega
      have g2' : b2 < wr.heap.size := by omega
      have hwm : IntKind.i64.wrap ((m : Int) + 1) = ((m + 1 : Nat) : Int) := by rw [IntWalk.i64_in _ (by omega)]; omega
      have H2 := Lib.hid h2
      by_cases he : k = s
      · subst he
        have hi := Lib.hid (show idxI ks k = (m : Int) by rw [idxI, idxB_first hk hn])
        have hbd : (k.toList == k.toList) = true := by simp
        clear h2 hbw hn hk
        rw [H2.out]
        go_wp2_with fail
        go_ret
        exact ⟨by rw [hi.out]; rfl, HBW.out⟩
      · have hbe : ¬ k.toList = s.toList := fun e => he (bl_eq e)
        have hbd : (k.toList == s.toList) = false := beq_false_of_ne hbe
        have hn' := Lib.hid (not_take_snoc hk hn he)
        clear h2 hbw hn hk
        rw [H2.out]
        go_wp2_with fail
        exact ⟨⟨m + 1, by omega, by go_num, hn'.out, HBW.out⟩, by simp [intOf]; omega⟩
    · obtain rfl : m = ks.length := by omega
      have hge : ¬ (ks.length : Int) < (ks.length : Int) := by omega
      have hi := Lib.hid (show idxI ks s = -1 from idxI_none (by rw [List.take_length] at hn; exact hn))
      clear hbw hn
      go_wp2_with fail
      go_ret
      exact ⟨by rw [hi.out]; rfl, HBW.out⟩

theorem namesP_none {s : ByteArray} {l : List Val} {v : Val} (hv : v ∈ l) (h : nameOf s v = none) : namesP s l = none := by
  rw [namesP, allSome_none (List.mem_map.2 ⟨v, hv, h⟩)]
theorem namesP_dup {s t : ByteArray} {l : List Val} {ns : List ByteArray} {i : Nat} {v : Val} (h1 : (l.take i).map (nameOf s) = ns.map some) (h2 : l[i]? = some v) (h3 : nameOf s v = some t) (h4 : t ∈ ns) : namesP s l = none := by
  cases h : namesP s l with
  | none => rfl
  | some ns' =>
    obtain ⟨g1, g2, g3⟩ := namesP_get h
    have e : (ns'.take i).map some = ns.map some := by rw [← h1, List.map_take, List.map_take, g1]
    have e' : ns'.take i = ns := (List.map_inj_right (fun _ _ h => Option.some.inj h)).1 e
    have hi : ns'[i]? = some t := by
      have := congrArg (fun q => q[i]?) g1
      simp only [List.getElem?_map, h2, Option.map_some, h3] at this
      cases hq : ns'[i]? with
      | none => rw [hq] at this; cases this
      | some q => rw [hq] at this; simp at this; rw [this]
    rw [← e'] at h4
    obtain ⟨j, hj, hjt⟩ := List.getElem_of_mem h4
    have hji : j < i := by rw [List.length_take] at hj; omega
    have hil := (List.getElem?_eq_some_iff.1 hi)
    have hp := List.pairwise_iff_getElem.1 g2 j i (by rw [List.length_take] at hj; omega) hil.1 hji
    rw [List.getElem_take] at hjt
    exact absurd (hjt.trans hil.2.symm) hp
theorem namesP_all {s : ByteArray} {l : List Val} {ns : List ByteArray} (h1 : l.map (nameOf s) = ns.map some) (h2 : ns.Nodup) : namesP s l = some ns := by
  rw [namesP, h1, allSome_map]
  simp [h2]
theorem shape_k {v : Val} (h : v.shape = true) : v.k ≤ 8 := by
  unfold Val.shape at h
  repeat' split at h
  all_goals first | omega | (simp at h)
def RNamesPost (o : Option (List ByteArray)) (w : World) (e : Ending) (w' : World) : Prop :=
  (∃ ns A c, o = some ns ∧ e = .returned (.tuple #[.slice A ns.length c, .bool true]) ∧ SlE strE 1 w' w.heap.size w'.heap.size A ns ∧ Below w.heap.size w w') ∨
  (o = none ∧ e = .returned (.tuple #[.slice none 0 0, .bool false]) ∧ Below w.heap.size w w')
end Go.Proofs.YtcpdogjcofkpcaaGreatDoor

namespace Go.Proofs.YtcpdogjcofkpcaaGreatDoor
open Go.RowKit Go.Sort

set_option maxRecDepth 100000 in
set_option maxHeartbeats 3200000 in
theorem rnames_c (w : World) (x : LA) (hx : x.Rd w) (s : ByteArray) : Calls Tryz.prog 17 #[.slice x.a x.l.length x.c, .string s] w (RNamesPost (namesP s x.v) w) := by
  have hlb := hx.len
  have HX := Lib.hid hx
  have HG := fun (y : AV) (hy : y ∈ x.l) W (h : Below w.heap.size w W) => Lib.hid (rget_c y s W ((hx.kids y hy).1.up h) (hx.kids y hy).2)
  have HTX := fun (z : AV) (W : World) (h : Go.Proofs.YtcpdogjcofkpcaaGreatDoor.Rd W z) (hw : z.w ≤ 1048576) => Lib.hid (rText_c z W h hw)
  have HKD := fun (y : AV) (hy : y ∈ x.l) => Lib.hid (hx.kids y hy)
  have hown0 : OwnS w w.heap.size (.slice none 0 0) [] := ⟨rfl, .inl ⟨rfl, rfl⟩⟩
  clear hx
  go_enter Tryz.func17, Tryz.ntmps17
  go_wp2_with fail
  go_loopw [6, 7] (fun s6 s7 wr => ∃ (i : Nat) (ns : List ByteArray) (a : Option Addr) (c : Nat), i ≤ x.l.length ∧ s7 = .int .i64 i ∧ s6 = .slice a ns.length c ∧ ns.length = i ∧ OwnS wr w.heap.size (.slice a ns.length c) ns ∧ (x.v.take i).map (nameOf s) = ns.map some ∧ ns.Nodup ∧ Below w.heap.size w wr) (fun _ s7 _ => x.l.length - (intOf s7).toNat)
  case atStart => exact ⟨0, [], none, 0, Nat.zero_le _, by go_num, rfl, rfl, hown0, rfl, .nil, Below.refl _ _⟩
  case round =>
    obtain ⟨i, ns, a, c, hi, rfl, rfl, hnl, hown, hns, hnd, hbw⟩ := hrel
    have hsr := hbw.size
    have HNL := Lib.hid hnl
    have HOW := Lib.hid hown
    have HNS := Lib.hid hns
    have HND := Lib.hid hnd
    have HBW := Lib.hid hbw
    clear hnl hown hns hnd hown0
    by_cases hlt : i < x.l.length
    · have hk : x.l[i]? = some x.l[i] := List.getElem?_eq_getElem hlt
      have hmem : x.l[i] ∈ x.l := List.getElem_mem hlt
      generalize x.l[i] = y at hk hmem
      have HVK := Lib.hid (show x.v[i]? = some y.v by rw [LA.v, List.getElem?_map, hk]; rfl)
      have HVM := Lib.hid (show y.v ∈ x.v by rw [LA.v]; exact List.mem_map_of_mem hmem)
      obtain ⟨b, off, hla, -, -, hb2, c0, c1, c2, c3⟩ := vals_at HX.out.sl hk
      rw [← hbw.cell (p := ⟨_, _, none⟩) hb2] at c0 c1 c2 c3
      have hbb : b < wr.heap.size := by omega
      have hlt' : (i : Int) < (x.l.length : Int) := by omega
      have hi0 : (0 : Int) ≤ (i : Int) := by omega
      have hwi : IntKind.i64.wrap ((i : Int) + 1) = ((i + 1 : Nat) : Int) := by rw [IntWalk.i64_in _ (by omega)]; omega
      have HC := HG y hmem
      have HYD := HKD y hmem
      have HLA := Lib.hid hla
      clear hla hk hmem hbw HG HKD
      rw [HLA.out]
      cases hg : y.v.get s with
      | none =>
        have HNO := Lib.hid (namesP_none HVM.out (show nameOf s y.v = none by rw [nameOf, hg]))
        have HC2 := fun W h => Lib.hid (show Calls Tryz.prog 45 #[y.val, .string s] W (fun e w' => e = .returned (.tuple #[zAV.val, .bool false]) ∧ Below W.heap.size W w') by
          refine (HC W h).out.mono ?_
          rintro e w' ⟨⟨z, -, hz, -⟩ | ⟨-, rfl⟩, hb⟩
          · rw [hg] at hz; cases hz
          · exact ⟨rfl, hb⟩)
        clear hg HC
        go_wp2_with (go_at_call 45; refine (HC2 _ HBW.out).out.mono ?_; rintro e w1 ⟨rfl, hb⟩)
        refine bodyPost_ret (v := .tuple #[.slice none 0 0, .bool false]) (by simp [results, Tryz.results17, go_sem]) rfl (.inr ⟨HNO.out, rfl, (below_via HBW.out hb).alloc (by have := hb.size; omega) _⟩)
      | some v =>
        have HC2 := fun W h => Lib.hid (show Calls Tryz.prog 45 #[y.val, .string s] W (fun e w' => ∃ z : AV, z ∈ y.l ∧ z.v = v ∧ e = .returned (.tuple #[z.val, .bool true]) ∧ Below W.heap.size W w') by
          refine (HC W h).out.mono ?_
          rintro e w' ⟨⟨z, hzm, hz, rfl⟩ | ⟨hz, -⟩, hb⟩
          · rw [hg] at hz; cases hz; exact ⟨z, hzm, rfl, rfl, hb⟩
          · rw [hg] at hz; cases hz)
        have hv8 : v.k ≤ 8 := by
          obtain ⟨h1, h2⟩ := get_mem hg
          have h3 : y.v.within 256 = true := by rw [Val.may_eq]; exact h2
          exact shape_k (within_sh ((within_k h3).2 v h1))
        have HGV := Lib.hid hg
        clear hg HC
        by_cases hv7 : v.k < 7
        · have HNM := Lib.hid (show nameOf s y.v = some ⟨(textR v).toArray⟩ by rw [nameOf, HGV.out]; exact if_pos hv7)
          have HFI := fun W (h : SlE strE 1 W 0 W.heap.size a ns) => Lib.hid (find28_c W a c ns ⟨(textR v).toArray⟩ 0 W.heap.size h (by have := HNL.out; omega))
          by_cases hdup : (⟨(textR v).toArray⟩ : ByteArray) ∈ ns
          · have HNO := Lib.hid (namesP_dup HNS.out HVK.out HNM.out hdup)
            have hix := (idxI_mem ns ⟨(textR v).toArray⟩).2 hdup
            generalize idxI ns ⟨(textR v).toArray⟩ = ix at HFI hix
            clear hdup
            go_wp2_with (first
              | (go_at_call 45; refine (HC2 _ HBW.out).out.mono ?_; rintro e w1 ⟨z, hzm, hzv, rfl, hb⟩
                 have hbw1 := below_via HBW.out hb
                 have hs1 := hb.size
                 have hzk : z.k = v.k := by rw [← hzv, AV.v_k]
                 have z7 : (z.k == 7) = false := by simp; omega
                 have z8 : (z.k == 8) = false := by simp; omega
                 have hzr := HYD.out.1.kid_at hbw1 hzm
                 have hzw : z.w ≤ 1048576 := by have h1 := AV.w_kid hzm; have h2 := HYD.out.2; omega
                 have HTZ := fun o => Lib.hid (show Calls Tryz.prog 42 #[z.val] (w1.alloc o) (Ret (.string ⟨(textR v).toArray⟩) (w1.alloc o)) by rw [← hzv]; exact (HTX z (w1.alloc o) (hzr.up ((Below.refl _ _).alloc (Nat.le_refl _) _)) hzw).out)
                 have hb2 := fun o => Lib.hid (show Below wr.heap.size wr (w1.alloc o) from hb.alloc hs1 o)
                 clear hzk hzv hzr)
              | (go_at_call 42; refine (HTZ _).out.mono ?_; rintro e w2 ⟨rfl, hbt⟩
                 have hbr2 := below_via (hb2 _).out hbt)
              | (go_at_call 68; refine (HFI _ ((own_sl (enc := strE) (size := 1) (fun _ => rfl) (own_below HOW.out hbr2)).widen (Nat.zero_le _) (Nat.le_refl _))).out.mono ?_; rintro e w3 ⟨rfl, hb3⟩
                 have hbr3 := below_via hbr2 hb3))
            refine bodyPost_ret (v := .tuple #[.slice none 0 0, .bool false]) (by simp [results, Tryz.results17, go_sem]) rfl (.inr ⟨HNO.out, rfl, below_via HBW.out hbr3⟩)
          · have hix : ¬ (0 : Int) ≤ idxI ns ⟨(textR v).toArray⟩ := by rw [idxI_mem]; exact hdup
            have HDU := Lib.hid hdup
            generalize idxI ns ⟨(textR v).toArray⟩ = ix at HFI hix
            clear hdup
            go_wp2_with (first
              | (go_at_call 45; refine (HC2 _ HBW.out).out.mono ?_; rintro e w1 ⟨z, hzm, hzv, rfl, hb⟩
                 have hbw1 := below_via HBW.out hb
                 have hs1 := hb.size
                 have hzk : z.k = v.k := by rw [← hzv, AV.v_k]
                 have z7 : (z.k == 7) = false := by simp; omega
                 have z8 : (z.k == 8) = false := by simp; omega
                 have hzr := HYD.out.1.kid_at hbw1 hzm
                 have hzw : z.w ≤ 1048576 := by have h1 := AV.w_kid hzm; have h2 := HYD.out.2; omega
                 have HTZ := fun o => Lib.hid (show Calls Tryz.prog 42 #[z.val] (w1.alloc o) (Ret (.string ⟨(textR v).toArray⟩) (w1.alloc o)) by rw [← hzv]; exact (HTX z (w1.alloc o) (hzr.up ((Below.refl _ _).alloc (Nat.le_refl _) _)) hzw).out)
                 have hb2 := fun o => Lib.hid (show Below wr.heap.size wr (w1.alloc o) from hb.alloc hs1 o)
                 clear hzk hzv hzr)
              | (go_at_call 42; refine (HTZ _).out.mono ?_; rintro e w2 ⟨rfl, hbt⟩
                 have hbr2 := below_via (hb2 _).out hbt)
              | (go_at_call 68; refine (HFI _ ((own_sl (enc := strE) (size := 1) (fun _ => rfl) (own_below HOW.out hbr2)).widen (Nat.zero_le _) (Nat.le_refl _))).out.mono ?_; rintro e w3 ⟨rfl, hb3⟩
                 have hbr3 := below_via hbr2 hb3
                 have hlit : SlE strE 1 (w3.alloc (.cells #[.string ⟨(textR v).toArray⟩] 9)) w3.heap.size (w3.heap.size + 1) (some ⟨w3.heap.size, 0, none⟩) [⟨(textR v).toArray⟩] := lit_sl (enc := strE) (size := 1) (l := [⟨(textR v).toArray⟩]) (t := 9) (fr := (0, 0)) (fun _ => rfl) (heap_alloc_new _ _)
                 obtain ⟨v', W', hrun, hown', hgr, -⟩ := app_str (c := 1) (own_below (own_below HOW.out hbr3) ((Below.refl _ _).alloc (Nat.le_refl _) _)) hlit (by have := HNL.out; simp; omega) (by have := hbr3.size; simp; omega)
                 obtain ⟨ns', hns'⟩ : ∃ ns', ns' = ns ++ [⟨(textR v).toArray⟩] := ⟨_, rfl⟩
                 rw [← hns'] at hown'
                 have HNS' := Lib.hid hns'
                 clear hns'
                 obtain ⟨a', c', rfl⟩ := own_form hown'
                 have HOW' := Lib.hid hown'
                 have HGR := Lib.hid hgr
                 clear hown' hlit hgr)
              | (at_builtin; refine wl_append (s := .tmp 44) (x := .tmp 46) rfl rfl (hrun _) ?_; clear hrun))
            refine ⟨⟨i + 1, ns', a', c', by omega, by go_num, rfl, by rw [HNS'.out, List.length_append, HNL.out]; rfl, HOW'.out, ?_, ?_, ?_⟩, by simp [intOf]; omega⟩
            · rw [List.take_add_one, HVK.out, List.map_append, HNS.out, HNS'.out]; simp [HNM.out]
            · rw [HNS'.out]
              exact List.nodup_append.2 ⟨HND.out, by simp, fun p hp q hq e => by simp at hq; subst hq; subst e; exact HDU.out hp⟩
            · exact ((below_via HBW.out hbr3).alloc (by have := hbr3.size; omega) _).grown HGR.out (by have := hbr3.size; simp; omega) (fun q hq => (World.ownsRow.lt HOW.out q hq).1)
        · have HNO := Lib.hid (namesP_none HVM.out (show nameOf s y.v = none by rw [nameOf, HGV.out]; exact if_neg hv7))
          rcases (by omega : v.k = 7 ∨ v.k = 8) with hk | hk
          all_goals
            go_wp2_with (
              go_at_call 45
              refine (HC2 _ HBW.out).out.mono ?_
              rintro e w1 ⟨z, -, hzv, rfl, hb⟩
              have hzk : z.k = v.k := by rw [← hzv, AV.v_k]
              rw [hk] at hzk
              have z7 : (z.k == 7) = decide (z.k = 7) := rfl
              have hzb := Lib.hid hzv
              clear hzv)
            refine bodyPost_ret (v := .tuple #[.slice none 0 0, .bool false]) (by simp [results, Tryz.results17, go_sem]) rfl (.inr ⟨HNO.out, rfl, (below_via HBW.out hb).alloc (by have := hb.size; omega) _⟩)
    · obtain rfl : i = x.l.length := by omega
      have hge : ¬ (x.l.length : Int) < (x.l.length : Int) := by omega
      have HF := Lib.hid (namesP_all (s := s) (l := x.v) (ns := ns) (by have h := HNS.out; rwa [List.take_of_length_le (by rw [LA.v, List.length_map]; exact Nat.le_refl _)] at h) HND.out)
      clear hbw HG HKD
      go_wp2_with fail
      refine bodyPost_ret (v := .tuple #[.slice a ns.length c, .bool true]) (by simp [results, Tryz.results17, go_sem]) rfl (.inl ⟨ns, a, c, HF.out, rfl, own_sl (enc := strE) (size := 1) (fun _ => rfl) HOW.out, HBW.out⟩)
end Go.Proofs.YtcpdogjcofkpcaaGreatDoor

namespace Go.Proofs.YtcpdogjcofkpcaaGreatDoor
open Go.RowKit Go.Sort

set_option maxRecDepth 100000 in
set_option maxHeartbeats 3200000 in
theorem sameTexts_c (w : World) (A B : Option Addr) (c d : Nat) (l : List ByteArray) (lo hi lo2 hi2 : Nat) (h : SlE strE 1 w lo hi A l) (h2 : SlE strE 1 w lo2 hi2 B l) (hl : l.length ≤ 16777216) :
    Calls Tryz.prog 19 #[.slice A l.length c, .slice B l.length d] w (Ret (.bool true) w) := by
  have HX := Lib.hid h
  have HY := Lib.hid h2
  clear h h2
  go_enter Tryz.func19, Tryz.ntmps19
  go_wp2_with fail
  go_loopw [5] (fun i wr => ∃ m : Nat, m ≤ l.length ∧ i = .int .i64 m ∧ Below w.heap.size w wr) (fun i _ => l.length - (intOf i).toNat)
  case atStart => exact ⟨0, Nat.zero_le _, by go_num, Below.refl _ _⟩
  case round =>
    obtain ⟨m, hm, rfl, hbw⟩ := hrel
    have hsr := hbw.size
    have HBW := Lib.hid hbw
    by_cases hlt : m < l.length
    · have hk : l[m]? = some l[m] := List.getElem?_eq_getElem hlt
      generalize l[m] = k at hk
      obtain ⟨b1, o1, e1, -, -, g1, c1⟩ := key_at HX.out hk
      obtain ⟨b2, o2, e2, -, -, g2, c2⟩ := key_at HY.out hk
      rw [← hbw.cell (p := ⟨_, _, none⟩) g1] at c1
      rw [← hbw.cell (p := ⟨_, _, none⟩) g2] at c2
      have hlt' : (m : Int) < (l.length : Int) := by omega
      have hm0 : (0 : Int) ≤ (m : Int) := by omega
      have g1' : b1 < wr.heap.size := by omega
      have g2' : b2 < wr.heap.size := by omega
      have hwm : IntKind.i64.wrap ((m : Int) + 1) = ((m + 1 : Nat) : Int) := by rw [IntWalk.i64_in _ (by omega)]; omega
      subst e1 e2
      clear hbw hk
      go_upto_region 6 with fail
      go_quiet (fail)
      go_wp2_with fail
      exact ⟨⟨m + 1, by omega, by go_num, below_drewN HBW.out _⟩, by simp [intOf]; omega⟩
    · have hge : ¬ (m : Int) < (l.length : Int) := by omega
      clear hbw
      go_wp2_with fail
      go_ret
      exact ⟨rfl, HBW.out⟩
theorem tr_at {w : World} {lo hi : Nat} {a : Option Addr} {l : List Tr} (h : SlE Tr.enc 4 w lo hi a l) {k : Nat} {y : Tr} (hk : l[k]? = some y) :
    ∃ b off, a = some ⟨b, off, none⟩ ∧ b < w.heap.size ∧ w.cell? ⟨b, off + k * 4, none⟩ = some (.string y.id) ∧ w.cell? ⟨b, off + k * 4 + 1, none⟩ = some (.int .i64 y.b) ∧ w.cell? ⟨b, off + k * 4 + 2, none⟩ = some (.int .i64 y.l) ∧ w.cell? ⟨b, off + k * 4 + 3, none⟩ = some (.int .i64 y.r) := by
  have hl : k < l.length := (List.getElem?_eq_some_iff.1 hk).1
  obtain ⟨b, off, e, g1, g2, g3, g4⟩ := h (by omega)
  have c := g4 k y hk
  exact ⟨b, off, e, g3, by simpa using c 0 _ rfl, c 1 _ rfl, c 2 _ rfl, c 3 _ rfl⟩
set_option maxRecDepth 100000 in
set_option maxHeartbeats 3200000 in
theorem same28_c (w : World) (A B : Option Addr) (c d : Nat) (l : List Tr) (lo hi lo2 hi2 : Nat) (h : SlE Tr.enc 4 w lo hi A l) (h2 : SlE Tr.enc 4 w lo2 hi2 B l) (hl : l.length ≤ 16777216) :
    Calls Tryz.prog 18 #[.slice A l.length c, .slice B l.length d] w (Ret (.bool true) w) := by
  have HX := Lib.hid h
  have HY := Lib.hid h2
  clear h h2
  go_enter Tryz.func18, Tryz.ntmps18
  go_wp2_with fail
  go_loopw [5] (fun i wr => ∃ m : Nat, m ≤ l.length ∧ i = .int .i64 m ∧ Below w.heap.size w wr) (fun i _ => l.length - (intOf i).toNat)
  case atStart => exact ⟨0, Nat.zero_le _, by go_num, Below.refl _ _⟩
  case round =>
    obtain ⟨m, hm, rfl, hbw⟩ := hrel
    have hsr := hbw.size
    have HBW := Lib.hid hbw
    by_cases hlt : m < l.length
    · have hk : l[m]? = some l[m] := List.getElem?_eq_getElem hlt
      generalize l[m] = k at hk
      obtain ⟨b1, o1, e1, g1, c0, c1, c2, c3⟩ := tr_at HX.out hk
      obtain ⟨b2, o2, e2, g2, d0, d1, d2, d3⟩ := tr_at HY.out hk
      rw [← hbw.cell (p := ⟨_, _, none⟩) g1] at c0 c1 c2 c3
      rw [← hbw.cell (p := ⟨_, _, none⟩) g2] at d0 d1 d2 d3
      have hlt' : (m : Int) < (l.length : Int) := by omega
      have hm0 : (0 : Int) ≤ (m : Int) := by omega
      have g1' : b1 < wr.heap.size := by omega
      have g2' : b2 < wr.heap.size := by omega
      have hwm : IntKind.i64.wrap ((m : Int) + 1) = ((m + 1 : Nat) : Int) := by rw [IntWalk.i64_in _ (by omega)]; omega
      subst e1 e2
      clear hbw hk
      go_upto_region 6 with fail
      go_quiet (fail)
      go_wp2_with fail
      exact ⟨⟨m + 1, by omega, by go_num, below_drewN HBW.out _⟩, by simp [intOf]; omega⟩
    · have hge : ¬ (m : Int) < (l.length : Int) := by omega
      clear hbw
      go_wp2_with fail
      go_ret
      exact ⟨rfl, HBW.out⟩
end Go.Proofs.YtcpdogjcofkpcaaGreatDoor
