/-
  keyeds.Plan: contract. Conditions: the lists lie in memory, lengths and weights are bounded; the table of short escapes holds what its initialiser lays.
-/
import Derived.Test.YtcpdogjcofkpcaaGreatDoorKI
import Derived.Deep.DeepCutAuto
import Derived.Shelf.SlSortCmp.NoneTotal
namespace Go.Proofs.YtcpdogjcofkpcaaGreatDoor
open Go.RowKit Go.Sort

def PlanPost (u : Int) (nb nl nr : Option (List ByteArray)) (w : World) (e : Ending) (w' : World) : Prop :=
  (∃ xb xl xr T A, nb = some xb ∧ nl = some xl ∧ nr = some xr ∧ PlanIs u xb xl xr T ∧ e = .returned (.tuple #[.slice A T.length T.length, .bool true]) ∧ SlE Tr.enc 4 w' w.heap.size w'.heap.size A T ∧ Below w.heap.size w w') ∨
  ((nb = none ∨ nl = none ∨ nr = none) ∧ e = .returned (.tuple #[.slice none 0 0, .bool false]) ∧ Below w.heap.size w w')

/-- ..and the triples are the caller's to write into. -/
def PlanPostO (u : Int) (nb nl nr : Option (List ByteArray)) (w : World) (e : Ending) (w' : World) : Prop :=
  (∃ xb xl xr T A, nb = some xb ∧ nl = some xl ∧ nr = some xr ∧ PlanIs u xb xl xr T ∧ e = .returned (.tuple #[.slice A T.length T.length, .bool true]) ∧ SlE Tr.enc 4 w' w.heap.size w'.heap.size A T ∧ Below w.heap.size w w' ∧ Thaw w' A) ∨
  ((nb = none ∨ nl = none ∨ nr = none) ∧ e = .returned (.tuple #[.slice none 0 0, .bool false]) ∧ Below w.heap.size w w')

/-- slices.Clip at triples. -/
theorem clip_t (w : World) (a : Option Addr) (cap n : Nat) (hn : n ≤ cap) :
    Calls Tryz.prog 67 #[.slice a n cap] w fun e w' => e = .returned (.slice a n n) ∧ w = w' := by
  go_enter Tryz.func67, Tryz.ntmps67
  go_wp2_with fail
  go_ret
  exact ⟨rfl, rfl⟩

set_option maxRecDepth 100000 in
set_option maxHeartbeats 12800000 in
theorem plan_o (w : World) (x y z : LA) (hx : x.Rd w) (hy : y.Rd w) (hz : z.Rd w) (at_ : Bool) (sh pr u : Int) (f : ByteArray) (hS : Shorts w) :
    Calls Tryz.prog 14 #[.slice x.a x.l.length x.c, .slice y.a y.l.length y.c, .slice z.a z.l.length z.c, .agg #[.bool at_, .int .u8 sh, .string f, .int .u8 pr, .int .u8 u]] w (PlanPostO u (namesP f x.v) (namesP f y.v) (namesP f z.v) w) := by
  have hb1 := (Below.refl w.heap.size w).alloc (Nat.le_refl _) (.cells #[.bool at_, .int .u8 sh, .string f, .int .u8 pr, .int .u8 u] 27)
  have hb2 := hb1.alloc (by simp) (.cells #[.slice x.a x.l.length x.c, .slice y.a y.l.length y.c, .slice z.a z.l.length z.c] 22)
  have hN1 := heap_alloc_new w (.cells #[.bool at_, .int .u8 sh, .string f, .int .u8 pr, .int .u8 u] 27)
  have hbx : ((w.alloc (.cells #[.bool at_, .int .u8 sh, .string f, .int .u8 pr, .int .u8 u] 27)).alloc (.cells #[.slice x.a x.l.length x.c, .slice y.a y.l.length y.c, .slice z.a z.l.length z.c] 22)).heap[w.heap.size]? = some (.cells #[.bool at_, .int .u8 sh, .string f, .int .u8 pr, .int .u8 u] 27 (0, 0)) := (heap_alloc_old _ _ _ (by simp)).trans hN1
  have hN2 := heap_alloc_new (w.alloc (.cells #[.bool at_, .int .u8 sh, .string f, .int .u8 pr, .int .u8 u] 27)) (.cells #[.slice x.a x.l.length x.c, .slice y.a y.l.length y.c, .slice z.a z.l.length z.c] 22)
  rw [World.size_alloc] at hN2
  have hlist := lit_sl (enc := LA.enc) (size := 1) (l := [x, y, z]) (t := 22) (fr := (0, 0)) (fun _ => rfl) hN2
  have hsz2 : ((w.alloc (.cells #[.bool at_, .int .u8 sh, .string f, .int .u8 pr, .int .u8 u] 27)).alloc (.cells #[.slice x.a x.l.length x.c, .slice y.a y.l.length y.c, .slice z.a z.l.length z.c] 22)).heap.size = w.heap.size + 2 := by simp
  have HG := Lib.hid (show Calls Tryz.prog 62 #[.slice (some ⟨w.heap.size + 1, 0, none⟩) 3 3, .func (.func 63) #[] #[.pointer (some ⟨w.heap.size, 0, none⟩)]] _ (GlPost [namesP f x.v, namesP f y.v, namesP f z.v] _) from
    gather_l _ (some ⟨w.heap.size + 1, 0, none⟩) 3 [x, y, z] (hlist.widen (Nat.zero_le _) (by omega)) (by simp) (fun v hv => by
      simp only [List.mem_cons, List.not_mem_nil, or_false] at hv
      rcases hv with rfl | rfl | rfl
      · exact hx.up hb2
      · exact hy.up hb2
      · exact hz.up hb2) w.heap.size f ((Go.Joins.cell_of_block hbx 2).trans rfl) (hS.below hb2))
  have HB2 := Lib.hid hb2
  have HBX := Lib.hid hbx
  have HZ2 := Lib.hid hsz2
  clear hb1 hb2 hN1 hbx hN2 hlist hsz2
  go_enter Tryz.func14, Tryz.ntmps14
  go_upto_region 2 with (go_at_call 62; refine HG.out.mono ?_; rintro e w3 (⟨R, A, c, hos, rfl, hsl, hRr, hb⟩ | ⟨hno, rfl, hb⟩))
  · go_name_world W0 hW0
    have hs3 := hb.size
    rw [HZ2.out] at hs3
    have hbw3 : Below w.heap.size w w3 := HB2.out.trans (hb.mono (by rw [HZ2.out]; omega))
    have hb0 : Below w3.heap.size w3 W0 := by rw [← hW0]; exact (Below.refl _ _).alloc (Nat.le_refl _) _
    have hz0 : W0.heap.size = w3.heap.size + 1 := by rw [← hW0]; simp
    have hall : W0.heap[w3.heap.size]? = some (.cells #[.slice A R.length c] 94 (0, 0)) := by rw [← hW0]; exact heap_alloc_new w3 _
    clear hW0
    have hbw0 := below_via hbw3 hb0
    have hrule := (hb0.block w.heap.size (by omega)).trans ((hb.block w.heap.size (by rw [HZ2.out]; omega)).trans HBX.out)
    have hsl0 : SlE SA.enc 1 W0 0 W0.heap.size A R := (hsl.widen (Nat.zero_le _) (Nat.le_refl _)).up hb0
    have hRr0 : ∀ r ∈ R, SlE strE 1 W0 0 W0.heap.size r.a r.ns := fun r hr => (hRr r hr).up hb0
    obtain ⟨r0, r1, r2, rfl⟩ : ∃ r0 r1 r2, R = [r0, r1, r2] := by
      have hlen := congrArg List.length hos
      simp at hlen
      match R, hlen with
      | [r0, r1, r2], _ => exact ⟨r0, r1, r2, rfl⟩
    simp only [List.map_cons, List.map_nil, List.cons.injEq, and_true] at hos
    obtain ⟨hn0, hn1, hn2⟩ := hos
    have hkw : ∀ (q : LA), q.Rd w → ∀ v ∈ q.v, v.w ≤ 1048576 := fun q hq v hv => by
      obtain ⟨y, hy, rfl⟩ := List.mem_map.1 hv
      exact (hq.kids y hy).2
    have hl0 : r0.ns.length = x.l.length := by rw [(namesP_get hn0).2.2, LA.v, List.length_map]
    have hl1 : r1.ns.length = y.l.length := by rw [(namesP_get hn1).2.2, LA.v, List.length_map]
    have hl2 : r2.ns.length = z.l.length := by rw [(namesP_get hn2).2.2, LA.v, List.length_map]
    have hx1 := hx.len
    have hy1 := hy.len
    have hz1 := hz.len
    have HP := fun (side : Nat) (hside : side < 3) (r : SA) (hr : [r0, r1, r2][side]? = some r) (hrn : r.ns.length ≤ 1048576) (hsz : ∀ s ∈ r.ns, s.size ≤ Go.maxLen) (W : World) (T : List Tr) (hps : PS W0 W T) (hT : T.length ≤ 4194304) =>
      place_c W0 W T side w3.heap.size A c [r0, r1, r2] r hside hps (one_cell hall).1 hsl0 hr (hRr0 r (List.mem_of_getElem? hr)) hrn hT hsz
    have HP0 := fun (W : World) (T : List Tr) (h1 : PS W0 W T) (h2 : T.length ≤ 4194304) => Lib.hid (show Calls Tryz.prog 64 #[.int .i64 0, .pointer (some ⟨w3.heap.size, 0, none⟩), .pointer (some ⟨W0.heap.size + 1, 0, none⟩), .pointer (some ⟨W0.heap.size + 1 + 1, 0, none⟩)] W (fun e w' => e = .returned (.tuple #[]) ∧ PS W0 w' (placeN 0 r0.ns T r0.ns.length)) from HP 0 (by omega) r0 rfl (by omega) (names_size hn0 (hkw x hx)) W T h1 h2)
    have HP1 := fun (W : World) (T : List Tr) (h1 : PS W0 W T) (h2 : T.length ≤ 4194304) => Lib.hid (show Calls Tryz.prog 64 #[.int .i64 1, .pointer (some ⟨w3.heap.size, 0, none⟩), .pointer (some ⟨W0.heap.size + 1, 0, none⟩), .pointer (some ⟨W0.heap.size + 1 + 1, 0, none⟩)] W (fun e w' => e = .returned (.tuple #[]) ∧ PS W0 w' (placeN 1 r1.ns T r1.ns.length)) from HP 1 (by omega) r1 rfl (by omega) (names_size hn1 (hkw y hy)) W T h1 h2)
    have HP2 := fun (W : World) (T : List Tr) (h1 : PS W0 W T) (h2 : T.length ≤ 4194304) => Lib.hid (show Calls Tryz.prog 64 #[.int .i64 2, .pointer (some ⟨w3.heap.size, 0, none⟩), .pointer (some ⟨W0.heap.size + 1, 0, none⟩), .pointer (some ⟨W0.heap.size + 1 + 1, 0, none⟩)] W (fun e w' => e = .returned (.tuple #[]) ∧ PS W0 w' (placeN 2 r2.ns T r2.ns.length)) from HP 2 (by omega) r2 rfl (by omega) (names_size hn2 (hkw z hz)) W T h1 h2)
    have hpl := fun u => placed_len (u := u) (xb := r0.ns) (xl := r1.ns) (xr := r2.ns) (namesP_get hn0).2.1
    have HN0 := Lib.hid hn0
    have HN1 := Lib.hid hn1
    have HN2 := Lib.hid hn2
    have HL0 := Lib.hid hl0
    have HBW0 := Lib.hid hbw0
    have HRU := Lib.hid hrule
    have HPL := Lib.hid hpl
    have hwl : w.heap.size < W0.heap.size := by omega
    have HL1 := Lib.hid hl1
    have HL2 := Lib.hid hl2
    clear HP hkw hn0 hn1 hn2 hsl0 hRr0 hsl hRr hall hrule hbw0 hbw3 hb hb0 HG HBX HB2 HZ2 hpl hl0 hl1 hl2
    have HZ0 := Lib.hid hz0
    clear hz0
    have hmm := @run_makeMap Tryz.prog
    go_upto_region 7 with fail
    clear hmm
    go_name_world W1 hW1
    have hps : PS W0 W1 [] := by
      have h2 := heap_alloc_new (W0.alloc (.map #[] 0)) (.cells #[.map (some W0.heap.size)] 98)
      have h3 := heap_alloc_new ((W0.alloc (.map #[] 0)).alloc (.cells #[.map (some W0.heap.size)] 98)) (.cells #[.slice none 0 0] 31)
      simp only [World.size_alloc] at h2 h3
      rw [← hW1]
      refine ⟨(((Below.refl _ _).alloc (Nat.le_refl _) _).alloc (by simp) _).alloc (by simp; omega) _, (heap_alloc_old _ _ _ (by simp)).trans h2, ⟨none, 0, h3, World.ownsRow_nil _ _ _ _⟩, ?_⟩
      exact ((MapIs.made W0).kept (World.grownBy_alloc _ _ none) (by simp)).kept (World.grownBy_alloc _ _ none) (by simp)
    clear hW1
    have hw1 : w.heap.size < W1.heap.size := Nat.lt_of_lt_of_le hwl hps.below.size
    have hps1 := Lib.hid hps
    clear hps
    by_cases hu2 : u = 2
    · have e2 : (u == 2) = true := by simp [hu2]
      have HU2 := Lib.hid hu2
      clear hu2
      go_upto_region 13 with (go_at_call 64; first
        | ((with_reducible refine (HP0 W1 [] hps1.out (by simp)).out.mono ?_); rintro e wa ⟨rfl, hpa⟩
           have hpla := Nat.le_of_eq (base_len (ns := r0.ns) (namesP_get HN0.out).2.1)
           obtain ⟨b0, b1, b2, b3⟩ : wa.cell? ⟨w.heap.size, 4, none⟩ = some (.int .u8 u) ∧ w.heap.size < wa.heap.size ∧ True ∧ True := ⟨(Go.Joins.cell_of_block ((hpa.below.block w.heap.size hwl).trans HRU.out) 4).trans rfl, Nat.lt_of_lt_of_le hwl hpa.below.size, trivial, trivial⟩
           have HPA := Lib.hid hpa
           clear hpa)
        | ((with_reducible refine (HP2 wa _ HPA.out (by have := HL0.out; omega)).out.mono ?_); rintro e wb ⟨rfl, hpb⟩
           have hplb := placeN_len 2 r2.ns (placeN 0 r0.ns [] r0.ns.length) r2.ns.length
           have HPB := Lib.hid hpb
           clear hpb)
        | ((with_reducible refine (HP1 wb _ HPB.out (by have := HL0.out; have := HL2.out; omega)).out.mono ?_); rintro e wd ⟨rfl, hpd⟩
           have HPD := Lib.hid hpd
           clear hpd))
      obtain ⟨TT, hTT⟩ : ∃ TT, TT = placeN 1 r1.ns (placeN 2 r2.ns (placeN 0 r0.ns [] r0.ns.length) r2.ns.length) r1.ns.length := ⟨_, rfl⟩
      have hpT : PS W0 wd TT := by rw [hTT]; exact HPD.out
      have hTp : TT = placed u r0.ns r1.ns r2.ns := by rw [hTT, placed, if_pos HU2.out]
      obtain ⟨hle1, hle2⟩ := HPL.out u
      rw [← hTp] at hle1 hle2
      rw [HL0.out] at hle1 hle2
      rw [HL1.out, HL2.out] at hle2
      obtain ⟨a, c2, hbx, hown⟩ := hpT.row
      obtain ⟨o0, o1⟩ := one_cell hbx
      have hsd := hpT.below.size
      have hg1 : w.heap.size < wd.heap.size := Nat.lt_of_lt_of_le hwl hsd
      have hg2 : W0.heap.size + 2 < wd.heap.size := by
        rcases Nat.lt_or_ge (W0.heap.size + 2) wd.heap.size with h | h
        · exact h
        · rw [Array.getElem?_eq_none h] at hbx; cases hbx
      have hru : wd.cell? ⟨w.heap.size, 4, none⟩ = some (.int .u8 u) := (Go.Joins.cell_of_block ((hpT.below.block w.heap.size hwl).trans HRU.out) 4).trans rfl
      have hwd := below_via HBW0.out hpT.below
      have i0 : (0 : Int) ≤ (x.l.length : Int) := by omega
      have i1 : (x.l.length : Int) ≤ (TT.length : Int) := by omega
      have hcap := own_cap hown rfl
      have HOW := Lib.hid hown
      have HWD := Lib.hid hwd
      have HTP := Lib.hid hTp
      clear hTT hpT hTp hbx hown hwd
      have n1 : (u != 1) = true := by simp [HU2.out]
      have n2 : (u != 2) = false := by simp [HU2.out]
      have hfin : SlE Tr.enc 4 wd w.heap.size wd.heap.size a TT := (own_sl Tr.enc_len HOW.out).widen (by omega) (Nat.le_refl _)
      have HFIN := Lib.hid hfin
      clear hfin HP0 HP1 HP2 HPA HPB HPD
      go_wp2_with (go_at_call 67; refine (clip_t _ _ _ _ hcap).mono ?_; rintro e w6 ⟨rfl, rfl⟩)
      all_goals refine bodyPost_ret (v := .tuple #[.slice a TT.length TT.length, .bool true]) (by simp [results, Tryz.results14, go_sem]) rfl (.inl ⟨r0.ns, r1.ns, r2.ns, TT, a, HN0.out, HN1.out, HN2.out, (by rw [PlanIs, if_pos (.inr HU2.out)]; exact HTP.out), rfl, HFIN.out, HWD.out, own_thaw HOW.out⟩)
    · have e2 : (u == 2) = false := by simp [hu2]
      have HU2 := Lib.hid hu2
      clear hu2
      go_upto_region 13 with (go_at_call 64; first
        | ((with_reducible refine (HP0 W1 [] hps1.out (by simp)).out.mono ?_); rintro e wa ⟨rfl, hpa⟩
           have hpla := Nat.le_of_eq (base_len (ns := r0.ns) (namesP_get HN0.out).2.1)
           obtain ⟨b0, b1, b2, b3⟩ : wa.cell? ⟨w.heap.size, 4, none⟩ = some (.int .u8 u) ∧ w.heap.size < wa.heap.size ∧ True ∧ True := ⟨(Go.Joins.cell_of_block ((hpa.below.block w.heap.size hwl).trans HRU.out) 4).trans rfl, Nat.lt_of_lt_of_le hwl hpa.below.size, trivial, trivial⟩
           have HPA := Lib.hid hpa
           clear hpa)
        | ((with_reducible refine (HP1 wa _ HPA.out (by have := HL0.out; omega)).out.mono ?_); rintro e wb ⟨rfl, hpb⟩
           have hplb := placeN_len 1 r1.ns (placeN 0 r0.ns [] r0.ns.length) r1.ns.length
           have HPB := Lib.hid hpb
           clear hpb)
        | ((with_reducible refine (HP2 wb _ HPB.out (by have := HL0.out; have := HL1.out; omega)).out.mono ?_); rintro e wd ⟨rfl, hpd⟩
           have HPD := Lib.hid hpd
           clear hpd))
      obtain ⟨TT, hTT⟩ : ∃ TT, TT = placeN 2 r2.ns (placeN 1 r1.ns (placeN 0 r0.ns [] r0.ns.length) r1.ns.length) r2.ns.length := ⟨_, rfl⟩
      have hpT : PS W0 wd TT := by rw [hTT]; exact HPD.out
      have hTp : TT = placed u r0.ns r1.ns r2.ns := by rw [hTT, placed, if_neg HU2.out]
      obtain ⟨hle1, hle2⟩ := HPL.out u
      rw [← hTp] at hle1 hle2
      rw [HL0.out] at hle1 hle2
      rw [HL1.out, HL2.out] at hle2
      obtain ⟨a, c2, hbx, hown⟩ := hpT.row
      obtain ⟨o0, o1⟩ := one_cell hbx
      have hsd := hpT.below.size
      have hg1 : w.heap.size < wd.heap.size := Nat.lt_of_lt_of_le hwl hsd
      have hg2 : W0.heap.size + 2 < wd.heap.size := by
        rcases Nat.lt_or_ge (W0.heap.size + 2) wd.heap.size with h | h
        · exact h
        · rw [Array.getElem?_eq_none h] at hbx; cases hbx
      have hru : wd.cell? ⟨w.heap.size, 4, none⟩ = some (.int .u8 u) := (Go.Joins.cell_of_block ((hpT.below.block w.heap.size hwl).trans HRU.out) 4).trans rfl
      have hwd := below_via HBW0.out hpT.below
      have i0 : (0 : Int) ≤ (x.l.length : Int) := by omega
      have i1 : (x.l.length : Int) ≤ (TT.length : Int) := by omega
      have hcap := own_cap hown rfl
      have HOW := Lib.hid hown
      have HWD := Lib.hid hwd
      have HTP := Lib.hid hTp
      clear hTT hpT hTp hbx hown hwd
      have n2 : (u != 2) = true := by simp [HU2.out]
      by_cases hu1 : u = 1
      · have n1 : (u != 1) = false := by simp [hu1]
        have HU1 := Lib.hid hu1
        clear hu1
        have hfin : SlE Tr.enc 4 wd w.heap.size wd.heap.size a TT := (own_sl Tr.enc_len HOW.out).widen (by omega) (Nat.le_refl _)
        have HFIN := Lib.hid hfin
        clear hfin HP0 HP1 HP2 HPA HPB HPD
        go_wp2_with (go_at_call 67; refine (clip_t _ _ _ _ hcap).mono ?_; rintro e w6 ⟨rfl, rfl⟩)
        all_goals refine bodyPost_ret (v := .tuple #[.slice a TT.length TT.length, .bool true]) (by simp [results, Tryz.results14, go_sem]) rfl (.inl ⟨r0.ns, r1.ns, r2.ns, TT, a, HN0.out, HN1.out, HN2.out, (by rw [PlanIs, if_pos (.inl HU1.out)]; exact HTP.out), rfl, HFIN.out, HWD.out, own_thaw HOW.out⟩)
      · have n1 : (u != 1) = true := by simp [hu1]
        have HU1 := Lib.hid hu1
        clear hu1
        by_cases hlt : x.l.length < TT.length
        · obtain ⟨g, c', hv, hgg1, hgg2⟩ := HOW.out.form (by omega)
          injection hv with hv1 hv2 hv3
          subst hv1
          have hcc : ¬ c2 = x.l.length := by omega
          have HSO := Lib.hid (sort_row HOW.out x.l.length hlt (by omega))
          clear HP0 HP1 HP2 HPA HPB HPD hv2 hv3
          go_wp2_with (first
            | (go_at_call 65; refine HSO.out.mono ?_; rintro e w5 ⟨rfl, S, hSp, hSs, hSl, hSg, hSf⟩
               have p0 : w5.cell? ⟨W0.heap.size + 1 + 1, 0, none⟩ = some (.slice (some ⟨g, 0, none⟩) TT.length c2) :=
                 (World.cell?_of_block (w := wd) (hSg.block (W0.heap.size + 2) hg2 (fun e => absurd (Option.some.inj e) (by omega)))).trans o0
               have hs5 := hSg.size
               have hg5 : W0.heap.size + 2 < w5.heap.size := by omega)
            | (go_at_call 67; refine (clip_t _ _ _ _ hcap).mono ?_; rintro e w6 ⟨rfl, rfl⟩))
          have hTl : (TT.take x.l.length ++ S).length = TT.length := by
            rw [List.length_append, hSp.length_eq, List.length_take, List.length_drop]; omega
          refine bodyPost_ret (v := .tuple #[.slice (some ⟨g, 0, none⟩) TT.length TT.length, .bool true]) (by simp [results, Tryz.results14, go_sem]) rfl (.inl ⟨r0.ns, r1.ns, r2.ns, TT.take x.l.length ++ S, some ⟨g, 0, none⟩, HN0.out, HN1.out, HN2.out, ?_, by rw [hTl], ?_, ?_, ?_⟩)
          · rw [PlanIs, if_neg (by rintro (h | h); exact HU1.out h; exact HU2.out h)]
            exact ⟨S, by rw [← HTP.out, HL0.out]; exact hSp, hSs, by rw [← HTP.out, HL0.out]⟩
          · exact hSl.widen (by omega) (by omega)
          · exact HWD.out.grown hSg (by omega) (fun q hq => by have := Option.some.inj hq; omega)
          · intro b off e; cases e; exact ⟨by omega, hSf⟩
        · have heq : TT.length = x.l.length := by omega
          have hfin : SlE Tr.enc 4 wd w.heap.size wd.heap.size a TT := (own_sl Tr.enc_len HOW.out).widen (by omega) (Nat.le_refl _)
          have HFIN := Lib.hid hfin
          have HEQ := Lib.hid heq
          have hsub : TT.length - x.l.length = 0 := by omega
          clear hfin heq HP0 HP1 HP2 HPA HPB HPD
          go_wp2_with (first
            | (go_at_call 65; refine (AnyF.slices_SortFunc_none Tryz.sortT _ _ _ _).mono ?_; rintro e w5 ⟨rfl, rfl⟩)
            | (go_at_call 67; refine (clip_t _ _ _ _ hcap).mono ?_; rintro e w6 ⟨rfl, rfl⟩))
          all_goals refine bodyPost_ret (v := .tuple #[.slice a TT.length TT.length, .bool true]) (by simp [results, Tryz.results14, go_sem]) rfl (.inl ⟨r0.ns, r1.ns, r2.ns, TT, a, HN0.out, HN1.out, HN2.out, ?_, rfl, HFIN.out, HWD.out, own_thaw HOW.out⟩)
          all_goals rw [PlanIs, if_neg (by rintro (h | h); exact HU1.out h; exact HU2.out h)]
          all_goals exact ⟨[], by rw [← HTP.out, HL0.out, List.drop_eq_nil_of_le (Nat.le_of_eq HEQ.out)], List.Pairwise.nil, by rw [← HTP.out, HL0.out, List.take_of_length_le (Nat.le_of_eq HEQ.out), List.append_nil]⟩
  · have hbw := HB2.out.trans (hb.mono (by rw [HZ2.out]; omega))
    have hno' : namesP f x.v = none ∨ namesP f y.v = none ∨ namesP f z.v = none := by
      simp only [List.mem_cons, List.not_mem_nil, or_false] at hno
      rcases hno with h | h | h
      · exact .inl h.symm
      · exact .inr (.inl h.symm)
      · exact .inr (.inr h.symm)
    have HNO := Lib.hid hno'
    clear hno hno'
    go_wp2_with fail
    refine bodyPost_ret (v := .tuple #[.slice none 0 0, .bool false]) (by simp [results, Tryz.results14, go_sem]) rfl (.inr ⟨HNO.out, rfl, hbw.alloc hbw.size _⟩)
theorem plan_c (w : World) (x y z : LA) (hx : x.Rd w) (hy : y.Rd w) (hz : z.Rd w) (at_ : Bool) (sh pr u : Int) (f : ByteArray) (hS : Shorts w) :
    Calls Tryz.prog 14 #[.slice x.a x.l.length x.c, .slice y.a y.l.length y.c, .slice z.a z.l.length z.c, .agg #[.bool at_, .int .u8 sh, .string f, .int .u8 pr, .int .u8 u]] w (PlanPost u (namesP f x.v) (namesP f y.v) (namesP f z.v) w) := by
  refine (plan_o w x y z hx hy hz at_ sh pr u f hS).mono ?_
  rintro e w' (⟨xb, xl, xr, T, A, h1, h2, h3, h4, h5, h6, h7, -⟩ | h1)
  · exact .inl ⟨xb, xl, xr, T, A, h1, h2, h3, h4, h5, h6, h7⟩
  · exact .inr h1
end Go.Proofs.YtcpdogjcofkpcaaGreatDoor
