/-
  inarchlaw27.SetsHas answers true. Conditions: the lists lie in memory, lengths and weights are bounded; strconv's table of powers holds what its initialiser lays.
-/
import Derived.Test.YtjihepdjcbpgoaaGreatDoorYM
namespace Go.Proofs.YtjihepdjcbpgoaaGreatDoor
open Go.RowKit Go.Sort

/-- The three lists by number. -/
def l3 (x y z : LA) (k : Nat) : LA := if k = 0 then x else if k = 1 then y else z
theorem l3_rd {w : World} {x y z : LA} (hx : x.Rd w) (hy : y.Rd w) (hz : z.Rd w) (k : Nat) : (l3 x y z k).Rd w := by
  unfold l3; split
  · exact hx
  · split <;> assumption
theorem l3_cell {w : World} {n : Nat} {x y z : LA} {t : TypeId} (h : w.heap[n]? = some (.cells #[.slice x.a x.l.length x.c, .slice y.a y.l.length y.c, .slice z.a z.l.length z.c] t (0, 0))) (k : Nat) (hk : k < 3) : w.cell? ⟨n, k, none⟩ = some (.slice (l3 x y z k).a (l3 x y z k).l.length (l3 x y z k).c) := by
  obtain ⟨h0, h1, h2, -⟩ := has_cell h
  rcases (show k = 0 ∨ k = 1 ∨ k = 2 by omega) with rfl | rfl | rfl
  · exact h0
  · exact h1
  · exact h2

set_option maxRecDepth 100000 in
set_option maxHeartbeats 3200000 in
theorem shas (w : World) (x y z : LA) (u : Nat) (hx : x.Rd w) (hy : y.Rd w) (hz : z.Rd w) (hP : Pow w) :
    Calls Tryz.prog 6 #[.agg #[.slice x.a x.l.length x.c, .slice y.a y.l.length y.c, .slice z.a z.l.length z.c], .int .u8 u] w (Ret (.bool true) w) := by
  have hxl := hx.len
  have hyl := hy.len
  have hzl := hz.len
  have HX := Lib.hid hx
  have HY := Lib.hid hy
  have HZ := Lib.hid hz
  have HP := Lib.hid hP
  clear hx hy hz hP
  go_enter Tryz.func6, Tryz.ntmps6
  go_upto_region 1 with fail
  go_name_world W1 hW1
  have hb1 : Below w.heap.size w W1 := by rw [← hW1]; exact (Below.refl _ _).alloc (Nat.le_refl _) _
  have hbx : W1.heap[w.heap.size]? = some (.cells #[.slice x.a x.l.length x.c, .slice y.a y.l.length y.c, .slice z.a z.l.length z.c] 38 (0, 0)) := by rw [← hW1]; exact heap_alloc_new w _
  clear hW1
  obtain ⟨k0, k1, k2, kl⟩ := has_cell hbx
  have HC := Lib.hid (fun W (h : Below W1.heap.size W1 W) => And.intro ((h.cell (p := ⟨w.heap.size, 0, none⟩) kl).trans k0) (And.intro ((h.cell (p := ⟨w.heap.size, 1, none⟩) kl).trans k1) ((h.cell (p := ⟨w.heap.size, 2, none⟩) kl).trans k2)))
  have HK3 := Lib.hid (fun W (h : Below W1.heap.size W1 W) (k : Nat) (hk : k < 3) => (h.cell (p := ⟨w.heap.size, k, none⟩) kl).trans (l3_cell hbx k hk))
  have HB1 := Lib.hid hb1
  have hlist := lit_sl (enc := LA.enc) (size := 1) (l := [x, y, z]) (t := 23) (fr := (0, 0)) (fun _ => rfl) (heap_alloc_new W1 (.cells #[.slice x.a x.l.length x.c, .slice y.a y.l.length y.c, .slice z.a z.l.length z.c] 23))
  have hba := (Below.refl W1.heap.size W1).alloc (Nat.le_refl _) (.cells #[.slice x.a x.l.length x.c, .slice y.a y.l.length y.c, .slice z.a z.l.length z.c] 23)
  have HG := Lib.hid (great23_s _ (some ⟨W1.heap.size, 0, none⟩) 3 [x, y, z] (hlist.widen (Nat.zero_le _) (by simp)) (fun q hq => by
    have hbw := below_via hb1 hba
    simp only [List.mem_cons, List.not_mem_nil, or_false] at hq
    rcases hq with rfl | rfl | rfl
    · exact HX.out.up hbw
    · exact HY.out.up hbw
    · exact HZ.out.up hbw) (by simp))
  have HBA := Lib.hid hba
  have HLV := fun W (h : Below w.heap.size w W) => Lib.hid (lives27_c W (HP.out.below h))
  clear hlist hba hb1 hbx
  go_upto_if 22 with (go_at_call 30; refine HG.out.mono ?_; rintro e w2 ⟨r, rfl, hsm, hb2⟩)
  have hb12 : Below W1.heap.size W1 w2 := below_via HBA.out hb2
  have HSM := Lib.hid hsm
  have HB12 := Lib.hid hb12
  have HBW2 := Lib.hid (below_via HB1.out hb12)
  clear hsm hb2 hb12 k0 k1 k2
  cases r with
  | true =>
    go_wp2_with (go_at_call 31; refine (HLV _ HBW2.out).out.mono ?_; rintro e w5 ⟨rfl, hb5⟩)
    go_ret
    exact ⟨rfl, below_via HBW2.out hb5⟩
  | false =>
    have sm := HSM.out rfl
    have sx := sm x (by simp)
    have sy := sm y (by simp)
    have sz := sm z (by simp)
    obtain ⟨k0, k1, k2⟩ := HC.out w2 HB12.out
    have kl2 : w.heap.size < w2.heap.size := Nat.lt_of_lt_of_le kl HB12.out.size
    have HMG := Lib.hid (merged_c w2 x y z u (HX.out.up HBW2.out) (HY.out.up HBW2.out) (HZ.out.up HBW2.out) (HP.out.below HBW2.out))
    clear sm HG
    go_upto_region 4 with (go_at_call 38; refine HMG.out.mono ?_; rintro e w3 ⟨ys, a, rfl, hbad, hgd, hsl, hkd, hln, hb3⟩)
    have hmrd : LA.Rd w3 ⟨a, ys, ys.length⟩ := ⟨hsl, by
      have h1 : y.v.length = y.l.length := List.length_map _
      have h2 : z.v.length = z.l.length := List.length_map _
      show ys.length ≤ _
      omega, hkd⟩
    have HMR := Lib.hid hmrd
    have HBAD := Lib.hid hbad
    have HGD := Lib.hid hgd
    have HB13 := Lib.hid (HB12.out.trans (hb3.mono HB12.out.size))
    have HBW3 := Lib.hid (below_via HBW2.out hb3)
    have hyl2 : ys.length ≤ 1048576 := hmrd.len
    clear hmrd hbad hgd hsl hkd hln hb3 k0 k1 k2 HMG
    go_wp2_with fail
    go_loopw [6] (fun s6 wr => ∃ k : Nat, k ≤ 3 ∧ s6 = .int .i64 k ∧ (∀ j, j < k → ∀ v ∈ (l3 x y z j).v, v.may = true) ∧ Below w3.heap.size w3 wr) (fun s6 _ => 3 - (intOf s6).toNat)
    case atStart => exact ⟨0, by omega, by go_num, fun j h => absurd h (by omega), Below.refl _ _⟩
    case round =>
      obtain ⟨k, hk, rfl, hmay, hbr⟩ := hrel
      have HMAY := Lib.hid hmay
      have HBR := Lib.hid hbr
      have HB1R := Lib.hid (HB13.out.trans (hbr.mono HB13.out.size))
      have HBWR := Lib.hid (below_via HBW3.out hbr)
      clear hmay hbr
      have klr : w.heap.size < wr.heap.size := Nat.lt_of_lt_of_le kl HB1R.out.size
      rcases (show k = 3 ∨ k < 3 by omega) with rfl | hk3
      · rw [show ((3 : Nat) : Int) = 3 from rfl]
        have mx : ∀ v ∈ x.v, v.may = true := fun v hv => HMAY.out 0 (by omega) v hv
        have my : ∀ v ∈ y.v, v.may = true := fun v hv => HMAY.out 1 (by omega) v hv
        have mz : ∀ v ∈ z.v, v.may = true := fun v hv => HMAY.out 2 (by omega) v hv
        obtain ⟨hmg, hmo⟩ := HGD.out (bad_split.2 ⟨mx, my, mz⟩)
        have mm : ∀ v ∈ ys.map AV.v, v.may = true := fun v hv => by
          rcases hmo v hv with h | h
          · exact my v h
          · exact mz v h
        have LAW := Lib.hid (fun (v : Val) (hv : v.may = true) => has_law hmg mx my mz mm hv)
        have ONCE := Lib.hid (fun (i : Nat) (v : Val) (hi : (ys.map AV.v)[i]? = some v) => once_law hmg.nodup mm hi)
        have SIDE := Lib.hid (fun (v : Val) (hv : v ∈ ys.map AV.v) => of_sides hmg my mz (mm v hv) hv)
        have MAY := Lib.hid (fun k (hk : k < 3) => HMAY.out k hk)
        clear mx my mz hmg hmo mm HMAY HBAD HGD
        go_wp2_with fail
        go_loopw [8] (fun s8 wr => ∃ k : Nat, k ≤ 3 ∧ s8 = .int .i64 k ∧ Below w3.heap.size w3 wr) (fun s8 _ => 3 - (intOf s8).toNat)
        case atStart => exact ⟨0, by omega, by go_num, HBR.out⟩
        case round =>
          clear HB1R HBWR klr HBR
          obtain ⟨k, hk, rfl, hbr⟩ := hrel
          have HBR := Lib.hid hbr
          have HB1R := Lib.hid (HB13.out.trans (hbr.mono HB13.out.size))
          have HBWR := Lib.hid (below_via HBW3.out hbr)
          clear hbr
          have klr : w.heap.size < wr.heap.size := Nat.lt_of_lt_of_le kl HB1R.out.size
          rcases (show k = 3 ∨ k < 3 by omega) with rfl | hk3
          · rw [show ((3 : Nat) : Int) = 3 from rfl]
            have hyl3 : ys.length ≤ 1048576 := hyl2
            go_wp2_with fail
            go_loopw [14] (fun s14 wi => ∃ i : Nat, i ≤ ys.length ∧ s14 = .int .i64 i ∧ Below w3.heap.size w3 wi) (fun s14 _ => ys.length - (intOf s14).toNat)
            case atStart => exact ⟨0, Nat.zero_le _, by go_num, HBR.out⟩
            case round =>
              clear HB1R HBWR klr HBR
              obtain ⟨i, hi, rfl, hbi⟩ := hrel
              have HBI := Lib.hid hbi
              have HB1I := Lib.hid (HB13.out.trans (hbi.mono HB13.out.size))
              have HBWI := Lib.hid (below_via HBW3.out hbi)
              clear hbi
              have kli := Nat.lt_of_lt_of_le kl HB1I.out.size
              by_cases hlt : i < ys.length
              · have hlt' : (i : Int) < (ys.length : Int) := by omega
                have hle' : (i : Int) ≤ (ys.length : Int) := by omega
                have hi0 : (0 : Int) ≤ (i : Int) := by omega
                have hwi : IntKind.i64.wrap ((i : Int) + 1) = ((i + 1 : Nat) : Int) := by rw [IntWalk.i64_in _ (by omega)]; omega
                have hkk : ys[i]? = some ys[i] := List.getElem?_eq_getElem hlt
                have hmem : ys[i] ∈ ys := List.getElem_mem hlt
                generalize ys[i] = t at *
                have hmr := HMR.out.up HBI.out
                obtain ⟨b, off, hla, -, -, hb2, c0, c1, c2, c3⟩ := vals_at hmr.sl hkk
                have htr := hmr.kids t hmem
                have htw : (ys.map AV.v)[i]? = some t.v := by rw [List.getElem?_map, hkk]; rfl
                have honce := ONCE.out i t.v htw
                have hside := SIDE.out t.v (List.mem_map_of_mem hmem)
                rw [← List.map_take] at honce
                have hpre : LA.Rd wr ⟨a, ys.take i, ys.length⟩ := ⟨hmr.sl.take i, by show (ys.take i).length ≤ _; rw [List.length_take]; omega, fun v hv => hmr.kids v (List.mem_of_mem_take hv)⟩
                have HIM := fun W (h : Below wr.heap.size wr W) => Lib.hid (show Calls Tryz.prog 39 #[.slice a i ys.length, t.val] W (Ret (.bool false) W) by
                  have h2 := in27_c W ⟨a, ys.take i, ys.length⟩ t (hpre.up h) (htr.1.up h) htr.2
                  rw [show (LA.v ⟨a, ys.take i, ys.length⟩) = (ys.take i).map AV.v from rfl, honce] at h2
                  have hl : (ys.take i).length = i := by rw [List.length_take]; omega
                  simp only [hl] at h2
                  exact h2)
                have HIY := fun W (h : Below wr.heap.size wr W) => Lib.hid (in27_c W y t (HY.out.up (below_via HBWI.out h)) (htr.1.up h) htr.2)
                have HIZ := fun W (h : Below wr.heap.size wr W) => Lib.hid (in27_c W z t (HZ.out.up (below_via HBWI.out h)) (htr.1.up h) htr.2)
                obtain ⟨by_, hby⟩ : ∃ r, inV y.v t.v = r := ⟨_, rfl⟩
                obtain ⟨bz, hbz'⟩ : ∃ r, inV z.v t.v = r := ⟨_, rfl⟩
                rw [hby] at HIY hside
                rw [hbz'] at HIZ hside
                have LD := Lib.hid (fun W (h : Below wr.heap.size wr W) => And.intro (HC.out W (HB1I.out.trans (h.mono HB1I.out.size))) (And.intro ((h.cell (p := ⟨b, off + i * 4, none⟩) hb2).trans c0) (And.intro ((h.cell (p := ⟨b, off + i * 4 + 1, none⟩) hb2).trans c1) (And.intro ((h.cell (p := ⟨b, off + i * 4 + 2, none⟩) hb2).trans c2) ((h.cell (p := ⟨b, off + i * 4 + 3, none⟩) hb2).trans c3)))))
                clear hkk hmem hmr htr htw honce hpre hby hbz' c0 c1 c2 c3
                subst hla
                cases by_ with
                | true =>
                  clear hside
                  go_upto_region 27 with fail
                  refine wp_region_bl (by kernel_rfl) (by kernel_rfl) ?_
                  repeat (first | go_big_quiet_skip | (go_big_quiet_want; go_big_quiet_op; first | go_big_quiet_on | (refine ⟨_, fun _ _ => (by with_reducible rfl), ?_⟩; go_big_quiet_on) | (apply Exists.intro; refine ⟨fun w' hC => (by simp only [LD.out w' hC, Result.andThen]; exact ⟨trivial, rfl⟩), ?_⟩; go_big_quiet_on) | (apply Exists.intro; refine ⟨fun w' hC => (by (with_reducible refine (HIM w' hC).out.mono ?_); exact fun e w2 ⟨he, hb⟩ => ⟨he, hC.trans (hb.mono hC.size)⟩), ?_⟩; go_big_quiet_on) | (apply Exists.intro; refine ⟨fun w' hC => (by (with_reducible refine (HIY w' hC).out.mono ?_); exact fun e w2 ⟨he, hb⟩ => ⟨he, hC.trans (hb.mono hC.size)⟩), ?_⟩; go_big_quiet_on) | (apply Exists.intro; refine ⟨fun w' hC => (by (with_reducible refine (HIZ w' hC).out.mono ?_); exact fun e w2 ⟨he, hb⟩ => ⟨he, hC.trans (hb.mono hC.size)⟩), ?_⟩; go_big_quiet_on)))
                  refine wpQuiet_nil ?_; intro wz hbz
                  go_wp2_with fail
                  exact ⟨⟨i + 1, by omega, by go_num, below_via HBI.out hbz⟩, by simp [intOf]; omega⟩
                | false =>
                  cases bz with
                  | false => simp at hside
                  | true =>
                    clear hside
                    go_upto_region 27 with fail
                    refine wp_region_bl (by kernel_rfl) (by kernel_rfl) ?_
                    repeat (first | go_big_quiet_skip | (go_big_quiet_want; go_big_quiet_op; first | go_big_quiet_on | (refine ⟨_, fun _ _ => (by with_reducible rfl), ?_⟩; go_big_quiet_on) | (apply Exists.intro; refine ⟨fun w' hC => (by simp only [LD.out w' hC, Result.andThen]; exact ⟨trivial, rfl⟩), ?_⟩; go_big_quiet_on) | (apply Exists.intro; refine ⟨fun w' hC => (by (with_reducible refine (HIM w' hC).out.mono ?_); exact fun e w2 ⟨he, hb⟩ => ⟨he, hC.trans (hb.mono hC.size)⟩), ?_⟩; go_big_quiet_on) | (apply Exists.intro; refine ⟨fun w' hC => (by (with_reducible refine (HIY w' hC).out.mono ?_); exact fun e w2 ⟨he, hb⟩ => ⟨he, hC.trans (hb.mono hC.size)⟩), ?_⟩; go_big_quiet_on) | (apply Exists.intro; refine ⟨fun w' hC => (by (with_reducible refine (HIZ w' hC).out.mono ?_); exact fun e w2 ⟨he, hb⟩ => ⟨he, hC.trans (hb.mono hC.size)⟩), ?_⟩; go_big_quiet_on)))
                    refine wpQuiet_nil ?_; intro wz hbz
                    go_wp2_with fail
                    exact ⟨⟨i + 1, by omega, by go_num, below_via HBI.out hbz⟩, by simp [intOf]; omega⟩
              · obtain rfl : i = ys.length := by omega
                have hge : ¬ (ys.length : Int) < (ys.length : Int) := by omega
                go_wp2_with (go_at_call 31; refine (HLV _ HBWI.out).out.mono ?_; rintro e w6 ⟨rfl, hb6⟩)
                go_ret
                exact ⟨rfl, below_via HBWI.out hb6⟩
          · have hk3' : (k : Int) < 3 := by omega
            have hk0 : (0 : Int) ≤ (k : Int) := by omega
            have hwk : IntKind.i64.wrap ((k : Int) + 1) = ((k + 1 : Nat) : Int) := by rw [IntWalk.i64_in _ (by omega)]; omega
            have HQ := Lib.hid (l3_rd HX.out HY.out HZ.out k)
            have HK := fun W h => Lib.hid (HK3.out W h k hk3)
            have HQM := Lib.hid (MAY.out k hk3)
            obtain ⟨q, hq⟩ : ∃ q, q = l3 x y z k := ⟨_, rfl⟩
            rw [← hq] at HQ HK HQM
            have hql := HQ.out.len
            clear hq
            go_wp2_with fail
            go_loopw [9] (fun s9 wi => ∃ i : Nat, i ≤ q.l.length ∧ s9 = .int .i64 i ∧ Below wr.heap.size wr wi) (fun s9 _ => q.l.length - (intOf s9).toNat)
            case atStart => exact ⟨0, Nat.zero_le _, by go_num, Below.refl _ _⟩
            case round =>
              obtain ⟨i, hi, rfl, hbi⟩ := hrel
              have HBI := Lib.hid hbi
              have HB3I := Lib.hid (below_via HBR.out hbi)
              have HB1I := Lib.hid (HB1R.out.trans (hbi.mono HB1R.out.size))
              have HBWI := Lib.hid (below_via HBWR.out hbi)
              clear hbi
              have kc := (HK _ HB1I.out).out
              have kli := Nat.lt_of_lt_of_le kl HB1I.out.size
              by_cases hlt : i < q.l.length
              · have hlt' : (i : Int) < (q.l.length : Int) := by omega
                have hi0 : (0 : Int) ≤ (i : Int) := by omega
                have hwi : IntKind.i64.wrap ((i : Int) + 1) = ((i + 1 : Nat) : Int) := by rw [IntWalk.i64_in _ (by omega)]; omega
                have hkk : q.l[i]? = some q.l[i] := List.getElem?_eq_getElem hlt
                have hmem : q.l[i] ∈ q.l := List.getElem_mem hlt
                generalize q.l[i] = t at *
                obtain ⟨b, off, hla, -, -, hb2, c0, c1, c2, c3⟩ := vals_at (HQ.out.up HBWI.out).sl hkk
                have htr := HQ.out.kids t hmem
                have hlaw := LAW.out t.v (HQM.out t.v (List.mem_map_of_mem hmem))
                have HIX := fun W (h : Below w.heap.size w W) => Lib.hid (in27_c W x t (HX.out.up h) (htr.1.up h) htr.2)
                have HIY := fun W (h : Below w.heap.size w W) => Lib.hid (in27_c W y t (HY.out.up h) (htr.1.up h) htr.2)
                have HIZ := fun W (h : Below w.heap.size w W) => Lib.hid (in27_c W z t (HZ.out.up h) (htr.1.up h) htr.2)
                have HIM := fun W (h : Below w3.heap.size w3 W) => Lib.hid (in27_c W ⟨a, ys, ys.length⟩ t (HMR.out.up h) (htr.1.up (below_via HBW3.out h)) htr.2)
                rw [show (LA.v ⟨a, ys, ys.length⟩) = ys.map AV.v from rfl] at HIM
                obtain ⟨bx, hbx⟩ : ∃ r, inV x.v t.v = r := ⟨_, rfl⟩
                obtain ⟨by_, hby⟩ : ∃ r, inV y.v t.v = r := ⟨_, rfl⟩
                obtain ⟨bz, hbz⟩ : ∃ r, inV z.v t.v = r := ⟨_, rfl⟩
                rw [hlaw] at HIM
                rw [hbx] at HIX HIM
                rw [hby] at HIY HIM
                rw [hbz] at HIZ HIM
                rw [hla] at kc
                clear hkk hmem htr hlaw hbx hby hbz hla
                go_upto_region 19 with fail
                clear c0 c1 c2 c3 kc
                go_name_world W5 hW5
                have hb5 : Below wr.heap.size wr W5 := by rw [← hW5]; exact (Below.refl _ _).alloc (Nat.le_refl _) _
                have hbx5 := Lib.hid (show W5.heap[wr.heap.size]? = some (.cells #[.int .u8 t.k, .string t.t, .slice t.la t.l.length t.lc, .slice t.ka t.ks.length t.kc] 26 (0, 0)) by rw [← hW5]; exact heap_alloc_new wr _)
                have hwl : wr.heap.size < W5.heap.size := by rw [← hW5]; simp
                have HB35 := Lib.hid (below_via HB3I.out hb5)
                have HBW5 := Lib.hid (below_via HBWI.out hb5)
                have HB15 := Lib.hid (HB1I.out.trans (hb5.mono HB1I.out.size))
                have HBI5 := Lib.hid (below_via HBI.out hb5)
                clear hW5 hb5 kli
                have LD := Lib.hid (fun W (h : Below W5.heap.size W5 W) => And.intro (HC.out W (HB15.out.trans (h.mono HB15.out.size))) (And.intro (vbox4 (blk_up h hbx5.out)) (And.intro (show w.heap.size < W.heap.size from Nat.lt_of_lt_of_le kl (Nat.le_trans HB15.out.size h.size)) (Nat.lt_of_lt_of_le hwl h.size))))
                obtain ⟨⟨k0, k1, k2⟩, ⟨v0, v1, v2, v3, -, -, -, -⟩, l1, l2⟩ := LD.out W5 (Below.refl _ _)
                cases bx <;> cases by_ <;> cases bz
                all_goals
                  simp only [Bool.and_true, Bool.and_false, Bool.or_true, Bool.or_false, Bool.not_true, Bool.not_false] at HIM
                  go_wp2_with (go_at_call 39; first
                    | ((with_reducible refine (HIM _ (below_via HB35.out h8)).out.mono ?_); rintro e w9 ⟨rfl, hb9⟩
                       have h9 := below_via h8 hb9)
                    | ((with_reducible refine (HIX _ HBW5.out).out.mono ?_); rintro e w6 ⟨rfl, hb6⟩
                       have h6 := hb6
                       obtain ⟨⟨k0, k1, k2⟩, ⟨v0, v1, v2, v3, -, -, -, -⟩, l1, l2⟩ := LD.out w6 h6)
                    | ((with_reducible refine (HIY _ (below_via HBW5.out h6)).out.mono ?_); rintro e w7 ⟨rfl, hb7⟩
                       have h7 := below_via h6 hb7
                       obtain ⟨⟨k0, k1, k2⟩, ⟨v0, v1, v2, v3, -, -, -, -⟩, l1, l2⟩ := LD.out w7 h7)
                    | ((with_reducible refine (HIZ _ (below_via HBW5.out h7)).out.mono ?_); rintro e w8 ⟨rfl, hb8⟩
                       have h8 := below_via h7 hb8
                       obtain ⟨⟨k0, k1, k2⟩, ⟨v0, v1, v2, v3, -, -, -, -⟩, l1, l2⟩ := LD.out w8 h8))
                  exact ⟨⟨i + 1, by omega, by go_num, below_via HBI5.out h9⟩, by simp [intOf]; omega⟩
              · obtain rfl : i = q.l.length := by omega
                have hge : ¬ (q.l.length : Int) < (q.l.length : Int) := by omega
                go_wp2_with fail
                exact ⟨⟨k + 1, by omega, by go_num, below_via HBR.out HBI.out⟩, by simp [intOf]; omega⟩
      · have hk3' : (k : Int) < 3 := by omega
        have hk0 : (0 : Int) ≤ (k : Int) := by omega
        have hwk : IntKind.i64.wrap ((k : Int) + 1) = ((k + 1 : Nat) : Int) := by rw [IntWalk.i64_in _ (by omega)]; omega
        have HQ := Lib.hid (l3_rd HX.out HY.out HZ.out k)
        have HK := fun W h => Lib.hid (HK3.out W h k hk3)
        obtain ⟨q, hq⟩ : ∃ q, q = l3 x y z k := ⟨_, rfl⟩
        rw [← hq] at HQ HK
        have HQE := Lib.hid hq
        have hql := HQ.out.len
        clear hq
        go_wp2_with fail
        go_loopw [7] (fun s7 wi => ∃ i : Nat, i ≤ q.l.length ∧ s7 = .int .i64 i ∧ (∀ t ∈ q.l.take i, t.v.may = true) ∧ Below wr.heap.size wr wi) (fun s7 _ => q.l.length - (intOf s7).toNat)
        case atStart => exact ⟨0, Nat.zero_le _, by go_num, by simp, Below.refl _ _⟩
        case round =>
          obtain ⟨i, hi, rfl, hmi, hbi⟩ := hrel
          have HMI := Lib.hid hmi
          have HBI := Lib.hid hbi
          have HB1I := Lib.hid (HB1R.out.trans (hbi.mono HB1R.out.size))
          have HBWI := Lib.hid (below_via HBWR.out hbi)
          clear hmi hbi
          have kc := (HK _ HB1I.out).out
          have kli := Nat.lt_of_lt_of_le kl HB1I.out.size
          by_cases hlt : i < q.l.length
          · have hlt' : (i : Int) < (q.l.length : Int) := by omega
            have hi0 : (0 : Int) ≤ (i : Int) := by omega
            have hwi : IntKind.i64.wrap ((i : Int) + 1) = ((i + 1 : Nat) : Int) := by rw [IntWalk.i64_in _ (by omega)]; omega
            have hkk : q.l[i]? = some q.l[i] := List.getElem?_eq_getElem hlt
            have hmem : q.l[i] ∈ q.l := List.getElem_mem hlt
            have htk : q.l.take (i + 1) = q.l.take i ++ [q.l[i]] := by rw [List.take_add_one, hkk]; rfl
            generalize q.l[i] = t at *
            obtain ⟨b, off, hla, -, -, hb2, c0, c1, c2, c3⟩ := vals_at (HQ.out.up HBWI.out).sl hkk
            have HMC := fun W (h : Below w.heap.size w W) => Lib.hid (may_c W t ((HQ.out.kids t hmem).1.up h) (HQ.out.kids t hmem).2)
            have HTK := Lib.hid htk
            have HMEM := Lib.hid hmem
            clear hkk hmem htk
            rw [hla] at kc
            clear hla
            obtain ⟨r, hr⟩ : ∃ r, t.v.may = r := ⟨_, rfl⟩
            rw [hr] at HMC
            have HR := Lib.hid hr
            clear hr
            cases r with
            | true =>
              go_wp2_with (go_at_call 12; refine (HMC _ HBWI.out).out.mono ?_; rintro e w5 ⟨rfl, hb5⟩)
              refine ⟨⟨i + 1, by omega, by go_num, fun v hv => ?_, below_via HBI.out hb5⟩, by simp [intOf]; omega⟩
              rw [HTK.out] at hv
              rcases List.mem_append.1 hv with hv | hv
              · exact HMI.out v hv
              · simp at hv; subst hv; exact HR.out
            | false =>
              have hbad : anyBad (x.v ++ y.v ++ z.v) = true := by
                have hv : t.v ∈ q.v := List.mem_map_of_mem HMEM.out
                refine List.any_eq_true.2 ⟨t.v, ?_, by rw [HR.out]; rfl⟩
                rw [HQE.out] at hv
                unfold l3 at hv
                split at hv
                · simp [hv]
                · split at hv <;> simp [hv]
              have hy0 := HBAD.out hbad
              have hyz : ((ys.length : Int) == 0) = true := by rw [hy0]; rfl
              clear hbad
              have HLV2 := HLV
              go_wp2_with (first
                | (go_at_call 12; refine (HMC _ HBWI.out).out.mono ?_; rintro e w5 ⟨rfl, hb5⟩)
                | (go_at_call 31; refine (HLV2 _ (below_via HBWI.out hb5)).out.mono ?_; rintro e w6 ⟨rfl, hb6⟩))
              go_ret
              exact ⟨rfl, below_via (below_via HBWI.out hb5) hb6⟩
          · obtain rfl : i = q.l.length := by omega
            have hge : ¬ (q.l.length : Int) < (q.l.length : Int) := by omega
            go_wp2_with fail
            refine ⟨⟨k + 1, by omega, by go_num, fun j hj v hv => ?_, below_via HBR.out HBI.out⟩, by simp [intOf]; omega⟩
            rcases Nat.lt_or_ge j k with h | h
            · exact HMAY.out j h v hv
            · obtain rfl : j = k := by omega
              rw [← HQE.out] at hv
              obtain ⟨t, ht, rfl⟩ := List.mem_map.1 hv
              exact HMI.out t (by rw [List.take_length]; exact ht)
end Go.Proofs.YtjihepdjcbpgoaaGreatDoor
