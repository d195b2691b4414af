/-
  inarchlaw23.Twin and Left: a list of values in new memory, with room behind that bears a mark; and that it stays so. Conditions: the list lies in memory, its elements' weights are bounded.
-/
import Derived.Test.YtjihepdjcbpgoaaGreatDoorTC
import Derived.Test.YtjihepdjcbpgoaaGreatDoorKF
namespace Go.Proofs.YtjihepdjcbpgoaaGreatDoor
open Go.RowKit Go.Sort

/-- A list of twins, as it lies: behind it there is room, and a mark. -/
structure LA.Tw (w : World) (lo hi : Nat) (x : LA) : Prop where
  sl : SlE AV.enc 4 w lo hi x.a (x.l ++ [mAV])
  cap : x.l.length < x.c
  kid : ∀ y ∈ x.l, y.Tw w lo hi
theorem LA.Tw.up {w w' : World} {x : LA} (h : x.Tw w 0 w.heap.size) (hb : Below w.heap.size w w') : x.Tw w' 0 w'.heap.size := ⟨h.sl.up hb, h.cap, fun y hy => (h.kid y hy).up hb⟩
theorem LA.Tw.widen {w : World} {lo hi lo' hi' : Nat} {x : LA} (h : x.Tw w lo hi) (h1 : lo' ≤ lo) (h2 : hi ≤ hi') : x.Tw w lo' hi' := ⟨h.sl.widen h1 h2, h.cap, fun y hy => (h.kid y hy).widen h1 h2⟩
def TwinsPost (v : List Val) (w : World) (e : Ending) (w' : World) : Prop := ∃ y : LA, e = .returned (.slice y.a y.l.length y.c) ∧ y.v = v ∧ y.Tw w' w.heap.size w'.heap.size ∧ Below w.heap.size w w'
theorem lit_oV (W : World) (_o : Obj) : SlE AV.enc 4 (W.alloc (.cells #[.int .u8 0, .string mkS, .slice none 0 0, .slice none 0 0] 26)) W.heap.size (W.heap.size + 1) (some ⟨W.heap.size, 0, none⟩) [mAV] := lit_markV W

set_option maxRecDepth 100000 in
set_option maxHeartbeats 3200000 in
theorem twin23_c (w : World) (x : LA) (hx : x.Rd w) : Calls Tryz.prog 32 #[.slice x.a x.l.length x.c] w (TwinsPost x.v w) := by
  have hlb := hx.len
  obtain ⟨mc, hmk⟩ := make_val (x.l.length + 1) (by omega)
  have hr1 : (Instr.makeSlice 23 (.int .i64 0) (.int .i64 ((x.l.length : Int) + 1))).run Tryz.prog w = .ok (.slice (some ⟨w.heap.size, 0, none⟩) 0 (x.l.length + 1)) (w.alloc (.cells mc 26)) := (hmk w).1
  have HO1 := Lib.hid ((hmk w).2 w.heap.size (Nat.le_refl _))
  have hw1 : IntKind.i64.wrap ((x.l.length : Int) + 1) = (x.l.length : Int) + 1 := IntWalk.i64_in _ (by omega)
  have HX := Lib.hid hx
  have HI := fun (y : AV) (hy : y ∈ x.l) (W : World) (hb : Below w.heap.size w W) => Lib.hid (twin14_c y W (((hx.kids y hy).1).up hb) (hx.kids y hy).2)
  clear hmk hx
  go_enter Tryz.func32, Tryz.ntmps32
  go_wp2_with fail
  go_loopw [3, 4] (fun s3 i wr => ∃ (m : Nat) (ys : List AV) (a : Option Addr) (c : Nat), m ≤ x.l.length ∧ i = .int .i64 m ∧ ys.length = m ∧ ys.map AV.v = (x.l.map AV.v).take m ∧ s3 = .slice a ys.length c ∧ OwnV wr w.heap.size (.slice a ys.length c) ys ∧ (∀ y ∈ ys, ∃ lo hi, y.Tw wr lo hi ∧ w.heap.size ≤ lo ∧ hi ≤ wr.heap.size ∧ ∀ q, (Value.slice a ys.length c).ownBlock = some q → ¬ (lo ≤ q ∧ q < hi)) ∧ Below w.heap.size w wr) (fun _ i _ => x.l.length - (intOf i).toNat)
  case atStart => exact ⟨0, [], some ⟨w.heap.size, 0, none⟩, x.l.length + 1, Nat.zero_le _, by go_num, rfl, rfl, rfl, HO1.out, fun y hy => absurd hy List.not_mem_nil, (Below.refl _ _).alloc (Nat.le_refl _) _⟩
  case round =>
    obtain ⟨m, ys, a, c, hml, rfl, hyl, hyv, rfl, hown, hyr, hwr⟩ := hrel
    have hzr := hwr.size
    have HYL := Lib.hid hyl
    have HYV := Lib.hid hyv
    have HOW := Lib.hid hown
    have HYR := Lib.hid hyr
    have HWR := Lib.hid hwr
    clear hyl hyv hown hyr hwr hr1
    have hgl : ∀ q, (Value.slice a ys.length c).ownBlock = some q → w.heap.size ≤ q ∧ q < wr.heap.size := World.ownsRow.lt HOW.out
    have HGL := Lib.hid hgl
    clear hgl
    by_cases hlt : m < x.l.length
    · have hk : x.l[m]? = some x.l[m] := List.getElem?_eq_getElem hlt
      have hmem : x.l[m] ∈ x.l := List.getElem_mem hlt
      generalize x.l[m] = y at *
      obtain ⟨b, off, hla, -, hb1, hb2, h0, h1, h2, h3⟩ := vals_at HX.out.sl hk
      rw [← HWR.out.cell (p := ⟨_, _, none⟩) hb2] at h0 h1 h2 h3
      have hbb : b < wr.heap.size := Nat.lt_of_lt_of_le hb2 HWR.out.size
      have hlt' : (m : Int) < (x.l.length : Int) := by omega
      have hm0 : (0 : Int) ≤ (m : Int) := by omega
      have HC := fun W h => HI y hmem W h
      have HK := Lib.hid hk
      rw [hla]
      clear hk hmem HI
      go_wp2_with (first
        | (go_at_call 11; refine (HC _ HWR.out).out.mono ?_; rintro e w2 ⟨z, rfl, hzv, hzi, hb⟩
           have hsz2 := hb.size
           have hlit : SlE AV.enc 4 (w2.alloc (.cells #[.int .u8 z.k, .string z.t, .slice z.la z.l.length z.lc, .slice z.ka z.ks.length z.kc] 26)) w2.heap.size (w2.heap.size + 1) (some ⟨w2.heap.size, 0, none⟩) [z] := lit_sl (enc := AV.enc) (size := 4) (l := [z]) (t := 26) (fr := (0, 0)) AV.enc_len (heap_alloc_new _ _)
           obtain ⟨v', W', hrun, hown', hgr, hat⟩ := app_val (c := 1) (own_below (own_below HOW.out hb) ((Below.refl _ _).alloc (Nat.le_refl _) _)) hlit (by have := HYL.out; simp; omega) (by simp; omega)
           obtain ⟨ys', hys'⟩ : ∃ ys', ys' = ys ++ [z] := ⟨_, rfl⟩
           rw [← hys'] at hown'
           obtain ⟨a', c', rfl⟩ := own_formV hown'
           have HYS' := Lib.hid hys'
           have HOW' := Lib.hid hown'
           have HZI := Lib.hid hzi
           have HZV := Lib.hid hzv
           have HB := Lib.hid hb
           have HGR := Lib.hid hgr
           have HAT := Lib.hid hat
           clear hys' hown' hlit hzi hzv hb hgr hat)
        | (at_builtin; refine wl_append (s := .tmp 15) (x := .tmp 21) rfl rfl (hrun _) ?_; clear hrun))
      have hgr := HGR.out
      have hsz3 := hgr.size
      rw [World.size_alloc] at hsz3
      have hnew : ∀ q, (Value.slice a' ys'.length c').ownBlock = some q → (Value.slice a ys.length c).ownBlock = some q ∨ q = w2.heap.size + 1 := fun q hq => by
        rcases HAT.out with e | e
        · exact .inl (e ▸ hq)
        · rw [hq, World.size_alloc] at e
          injection e with e
          exact .inr e
      have hblk : ∀ q, q < w2.heap.size → (∀ g, (Value.slice a ys.length c).ownBlock = some g → q ≠ g) → W'.heap[q]? = w2.heap[q]? := fun q hq hne => by
        rw [hgr.block q (by rw [World.size_alloc]; omega) (fun e => hne q e.symm rfl), heap_alloc_old _ _ _ hq]
      refine ⟨⟨m + 1, ys', a', c', by omega, by go_num, by rw [HYS'.out]; simp [HYL.out], ?_, rfl, HOW'.out, ?_, ?_⟩, by simp [intOf]; omega⟩
      · rw [HYS'.out, List.map_append, HYV.out, List.take_add_one, List.getElem?_map, HK.out, List.map_singleton, HZV.out]; rfl
      · have key : ∀ (r : AV) lo hi, r.Tw w2 lo hi → w.heap.size ≤ lo → hi ≤ w2.heap.size → (∀ q, (Value.slice a ys.length c).ownBlock = some q → ¬ (lo ≤ q ∧ q < hi)) → ∃ lo hi, r.Tw W' lo hi ∧ w.heap.size ≤ lo ∧ hi ≤ W'.heap.size ∧ ∀ q, (Value.slice a' ys'.length c').ownBlock = some q → ¬ (lo ≤ q ∧ q < hi) := by
          intro r lo hi h1 h2 h3 h4
          refine ⟨lo, hi, h1.kept (by omega) (fun q q1 q2 q3 => hblk q q3 fun g hg e => h4 g hg ⟨by omega, by omega⟩), h2, by omega, fun q hq hc => ?_⟩
          rcases hnew q hq with e | e
          · exact h4 q e hc
          · omega
        intro r hr
        rw [HYS'.out] at hr
        rcases List.mem_append.1 hr with hr | hr
        · obtain ⟨lo, hi, h1, h2, h3, h4⟩ := HYR.out r hr
          exact key r lo hi (h1.blw HB.out h3) h2 (by omega) h4
        · simp at hr; subst hr
          exact key _ wr.heap.size w2.heap.size HZI.out hzr (Nat.le_refl _) fun q hq hc => by have := HGL.out q hq; omega
      · exact (HWR.out.trans ((HB.out.mono hzr).trans ((Below.refl _ _).alloc (by omega) _))).grown hgr (by simp; omega) (fun q hq => (HGL.out q hq).1)
    · obtain rfl : m = x.l.length := by omega
      have hge : ¬ (x.l.length : Int) < (x.l.length : Int) := by omega
      have hyl7 : ys.length + 1 ≤ 16777216 := by have := HYL.out; omega
      have hys : ys.map AV.v = x.l.map AV.v := by rw [HYV.out]; exact List.take_of_length_le (by simp)
      have hba : Below wr.heap.size wr (wr.alloc (.cells #[.int .u8 0, .string ⟨#[109, 97, 114, 107]⟩, .slice none 0 0, .slice none 0 0] 26)) := (Below.refl _ _).alloc (Nat.le_refl _) _
      obtain ⟨v', W', hrun, hown', hgr, hat⟩ := app_val (c := 1) (own_below HOW.out hba) (lit_markV wr) (by simp; omega) (by simp; omega)
      obtain ⟨g, c3, rfl, hg1, hg2⟩ := World.ownsRow.form hown' (by simp)
      rw [List.length_append, List.length_singleton, HYL.out] at hrun
      have hcap := own_cap hown' rfl
      rw [List.length_append, List.length_singleton, HYL.out] at hcap
      have hcap' : (x.l.length : Int) ≤ (c3 : Int) := by omega
      have HYS := Lib.hid hys
      have HOW' := Lib.hid hown'
      have HGR := Lib.hid hgr
      have hst := hgr.size
      rw [World.size_alloc] at hst
      have HBA := Lib.hid hba
      clear hys hown' hgr hat HI hba hyl7
      rw [HYL.out]
      go_wp2_with (at_builtin; refine wl_append (s := .tmp 23) (x := .tmp 25) rfl rfl (hrun _) ?_; clear hrun)
      go_ret
      refine ⟨⟨some ⟨g, 0, none⟩, ys, c3⟩, ?_, HYS.out, ⟨own_sl AV.enc_len HOW'.out, by show ys.length < c3; rw [HYL.out]; exact hcap, fun u hu => ?_⟩, ?_⟩
      · show _ = Ending.returned (.slice (some ⟨g, 0, none⟩) ys.length c3)
        rw [HYL.out]; rfl
      · obtain ⟨lo, hi, h1, h2, h3, h4⟩ := HYR.out u hu
        exact ((h1.blw HBA.out h3).kept (by rw [World.size_alloc]; exact hst) fun q q1 q2 q3 => HGR.out.block q q3 fun e => h4 q e.symm ⟨q1, q2⟩).widen h2 (by omega)
      · exact (HWR.out.trans (HBA.out.mono hzr)).grown HGR.out (by simp; omega) (fun q hq => (HGL.out q hq).1)

set_option maxRecDepth 100000 in
set_option maxHeartbeats 3200000 in
theorem left23_c (w : World) (x t : LA) (he : t.v = x.v) (ht : t.Tw w 0 w.heap.size) (hx : x.Rd w) : Calls Tryz.prog 36 #[.slice t.a t.l.length t.c, .slice x.a x.l.length x.c] w (Ret (.bool true) w) := by
  obtain ⟨ta, l, tc⟩ := t
  have hlb := hx.len
  have hlen : l.length = x.l.length := by have := congrArg List.length he; simpa [LA.v] using this
  have hcap := ht.cap
  have hsl := ht.sl
  have hkid := fun y hy => ht.kid y hy
  simp only at hcap hsl hkid
  obtain ⟨lb, lo, rfl, -, -, hlb1, hlc⟩ := hsl (by simp)
  have ml : w.cell? ⟨lb, lo + l.length * 4 + 1, none⟩ = some (.string ⟨#[109, 97, 114, 107]⟩) := hlc l.length mAV (by simp) 1 _ rfl
  rw [hlen] at ml hcap
  have HL := Lib.hid (show SlE AV.enc 4 w 0 w.heap.size (some ⟨lb, lo, none⟩) l from sl_front hsl)
  have HX := Lib.hid hx
  have HLEN := Lib.hid hlen
  have HE3 := Lib.hid he
  have HI := fun (y y' : AV) (hy : y ∈ x.l) (hy' : y' ∈ l) (hv : y'.v = y.v) (W : World) (hb : Below w.heap.size w W) => Lib.hid (left14_c y y' W hv ((hkid y' hy').up hb) (((hx.kids y hy).1).up hb) (hx.kids y hy).2)
  show Calls Tryz.prog 36 #[.slice (some ⟨lb, lo, none⟩) l.length tc, .slice x.a x.l.length x.c] w (Ret (.bool true) w)
  rw [hlen]
  have hw1 : IntKind.i64.wrap ((x.l.length : Int) + 1) = (x.l.length : Int) + 1 := IntWalk.i64_in _ (by omega)
  have hn1 : (0 : Int) ≤ (x.l.length : Int) + 1 := by omega
  have hn3 : (x.l.length : Int) + 1 ≤ (tc : Int) := by omega
  clear hsl hkid hlc he hlen ht hx
  go_enter Tryz.func36, Tryz.ntmps36
  go_wp2_with fail
  go_loopw [5] (fun i wr => ∃ m : Nat, m ≤ x.l.length ∧ i = .int .i64 m ∧ Below w.heap.size w wr) (fun i _ => x.l.length - (intOf i).toNat)
  case atStart => exact ⟨0, Nat.zero_le _, by go_num, Below.refl _ _⟩
  case round =>
    obtain ⟨m2, hm2, rfl, hbw⟩ := hrel
    have hsr := hbw.size
    have HBWR2 := Lib.hid hbw
    by_cases hlt2 : m2 < x.l.length
    · have hk : x.l[m2]? = some x.l[m2] := List.getElem?_eq_getElem hlt2
      have hmem : x.l[m2] ∈ x.l := List.getElem_mem hlt2
      generalize x.l[m2] = y at hk hmem
      obtain ⟨y', hk', hv⟩ : ∃ y', l[m2]? = some y' ∧ y'.v = y.v := by
        have h := congrArg (fun q => q[m2]?) HE3.out
        simp only [LA.v, List.getElem?_map, hk, Option.map_some] at h
        cases hy : l[m2]? with
        | none => rw [hy] at h; cases h
        | some y' => rw [hy] at h; exact ⟨y', rfl, by simpa using h⟩
      have hmem' : y' ∈ l := List.mem_of_getElem? hk'
      obtain ⟨b1, o1, h1, -, -, g1, c0, c1, c2, c3⟩ := vals_at HL.out hk'
      obtain ⟨b2, o2, h2, -, -, g2, d0, d1, d2, d3⟩ := vals_at HX.out.sl hk
      cases h1
      rw [← hbw.cell (p := ⟨_, _, none⟩) g1] at c0 c1 c2 c3
      rw [← hbw.cell (p := ⟨_, _, none⟩) g2] at d0 d1 d2 d3
      have hlt2' : (m2 : Int) < (x.l.length : Int) := by omega
      have hm0 : (0 : Int) ≤ (m2 : Int) := by omega
      have g1' : lb < wr.heap.size := by omega
      have g2' : b2 < wr.heap.size := by omega
      have hwm : IntKind.i64.wrap ((m2 : Int) + 1) = ((m2 + 1 : Nat) : Int) := by rw [IntWalk.i64_in _ (by omega)]; omega
      have HC := fun W h => HI y y' hmem hmem' hv W h
      have H2 := Lib.hid h2
      clear hbw hk hk' hmem hmem' hv HI h2 ml
      rw [H2.out]
      go_upto_region 6 with fail
      go_region_held3 (fun w' => (∀ b o, b < wr.heap.size → w'.cell? ⟨b, o, none⟩ = wr.cell? ⟨b, o, none⟩) ∧ Below wr.heap.size wr w')
        (first | (with_reducible exact Q1.out) | exact ⟨fun _ _ _ => rfl, (Below.refl _ _).drew⟩)
        (first | (go_at_call 28; refine (HC _ (s_below (N := wr.heap.size) HBWR2.out (by omega) (by assumption))).out.mono ?_; rintro e w4 ⟨rfl, hb4⟩; have Q1 := Lib.hid (s_step (Nat.le_refl _) (by assumption) hb4)))
      go_wp2_with fail
      exact ⟨⟨m2 + 1, by omega, by go_num, HBWR2.out.trans (Q1.out.2.mono hsr)⟩, by simp [intOf]; omega⟩
    · have hge2 : ¬ (m2 : Int) < (x.l.length : Int) := by omega
      clear hbw
      go_wp2_with fail
      go_ret
      exact ⟨rfl, HBWR2.out⟩
end Go.Proofs.YtjihepdjcbpgoaaGreatDoor
