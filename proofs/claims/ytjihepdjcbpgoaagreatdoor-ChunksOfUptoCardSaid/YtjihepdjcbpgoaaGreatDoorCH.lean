/-
  inarchlaw23.ChunksOf answers true. Conditions: the lists lie in memory, lengths and weights are bounded; strconv's table of powers holds what its initialiser lays.
-/
import Derived.Test.YtjihepdjcbpgoaaGreatDoorTC
import Derived.Test.YtjihepdjcbpgoaaGreatDoorKF
import Derived.Test.YtjihepdjcbpgoaaGreatDoorCF
namespace Go.Proofs.YtjihepdjcbpgoaaGreatDoor
open Go.RowKit Go.Sort

/-- A list of twins, as it lies: behind it there is room, and a mark. -/
structure LA.Tw (w : World) (lo hi : Nat) (x : LA) : Prop where
  sl : SlE AV.enc 4 w lo hi x.a (x.l ++ [mAV])
  cap : x.l.length < x.c
  kid : ∀ y ∈ x.l, y.Tw w lo hi
theorem LA.Tw.up {w w' : World} {x : LA} (h : x.Tw w 0 w.heap.size) (hb : Below w.heap.size w w') : x.Tw w' 0 w'.heap.size := ⟨h.sl.up hb, h.cap, fun y hy => (h.kid y hy).up hb⟩
theorem LA.Tw.widen {w : World} {lo hi lo' hi' : Nat} {x : LA} (h : x.Tw w lo hi) (h1 : lo' ≤ lo) (h2 : hi ≤ hi') : x.Tw w lo' hi' := ⟨h.sl.widen h1 h2, h.cap, fun y hy => (h.kid y hy).widen h1 h2⟩
def TwinsPost (v : List Val) (w : World) (e : Ending) (w' : World) : Prop := ∃ y : LA, e = .returned (.slice y.a y.l.length y.c) ∧ y.v = v ∧ y.Tw w' w.heap.size w'.heap.size ∧ Below w.heap.size w w'
theorem lit_oV (W : World) (_o : Obj) : SlE AV.enc 4 (W.alloc (.cells #[.int .u8 0, .string mkS, .slice none 0 0, .slice none 0 0] 26)) W.heap.size (W.heap.size + 1) (some ⟨W.heap.size, 0, none⟩) [mAV] := lit_markV W

set_option maxRecDepth 100000 in
set_option maxHeartbeats 3200000 in
theorem twin23_c (w : World) (x : LA) (hx : x.Rd w) : Calls Tryz.prog 32 #[.slice x.a x.l.length x.c] w (TwinsPost x.v w) := by
  have hlb := hx.len
  obtain ⟨mc, hmk⟩ := make_val (x.l.length + 1) (by omega)
  have hr1 : (Instr.makeSlice 23 (.int .i64 0) (.int .i64 ((x.l.length : Int) + 1))).run Tryz.prog w = .ok (.slice (some ⟨w.heap.size, 0, none⟩) 0 (x.l.length + 1)) (w.alloc (.cells mc 26)) := (hmk w).1
  have HO1 := Lib.hid ((hmk w).2 w.heap.size (Nat.le_refl _))
  have hw1 : IntKind.i64.wrap ((x.l.length : Int) + 1) = (x.l.length : Int) + 1 := IntWalk.i64_in _ (by omega)
  have HX := Lib.hid hx
  have HI := fun (y : AV) (hy : y ∈ x.l) (W : World) (hb : Below w.heap.size w W) => Lib.hid (twin14_c y W (((hx.kids y hy).1).up hb) (hx.kids y hy).2)
  clear hmk hx
  go_enter Tryz.func32, Tryz.ntmps32
  go_wp2_with fail
  go_loopw [3, 4] (fun s3 i wr => ∃ (m : Nat) (ys : List AV) (a : Option Addr) (c : Nat), m ≤ x.l.length ∧ i = .int .i64 m ∧ ys.length = m ∧ ys.map AV.v = (x.l.map AV.v).take m ∧ s3 = .slice a ys.length c ∧ OwnV wr w.heap.size (.slice a ys.length c) ys ∧ (∀ y ∈ ys, ∃ lo hi, y.Tw wr lo hi ∧ w.heap.size ≤ lo ∧ hi ≤ wr.heap.size ∧ ∀ q, (Value.slice a ys.length c).ownBlock = some q → ¬ (lo ≤ q ∧ q < hi)) ∧ Below w.heap.size w wr) (fun _ i _ => x.l.length - (intOf i).toNat)
  case atStart => exact ⟨0, [], some ⟨w.heap.size, 0, none⟩, x.l.length + 1, Nat.zero_le _, by go_num, rfl, rfl, rfl, HO1.out, fun y hy => absurd hy List.not_mem_nil, (Below.refl _ _).alloc (Nat.le_refl _) _⟩
  case round =>
    obtain ⟨m, ys, a, c, hml, rfl, hyl, hyv, rfl, hown, hyr, hwr⟩ := hrel
    have hzr := hwr.size
    have HYL := Lib.hid hyl
    have HYV := Lib.hid hyv
    have HOW := Lib.hid hown
    have HYR := Lib.hid hyr
    have HWR := Lib.hid hwr
    clear hyl hyv hown hyr hwr hr1
    have hgl : ∀ q, (Value.slice a ys.length c).ownBlock = some q → w.heap.size ≤ q ∧ q < wr.heap.size := World.ownsRow.lt HOW.out
    have HGL := Lib.hid hgl
    clear hgl
    by_cases hlt : m < x.l.length
    · have hk : x.l[m]? = some x.l[m] := List.getElem?_eq_getElem hlt
      have hmem : x.l[m] ∈ x.l := List.getElem_mem hlt
      generalize x.l[m] = y at *
      obtain ⟨b, off, hla, -, hb1, hb2, h0, h1, h2, h3⟩ := vals_at HX.out.sl hk
      rw [← HWR.out.cell (p := ⟨_, _, none⟩) hb2] at h0 h1 h2 h3
      have hbb : b < wr.heap.size := Nat.lt_of_lt_of_le hb2 HWR.out.size
      have hlt' : (m : Int) < (x.l.length : Int) := by omega
      have hm0 : (0 : Int) ≤ (m : Int) := by omega
      have HC := fun W h => HI y hmem W h
      have HK := Lib.hid hk
      rw [hla]
      clear hk hmem HI
      go_wp2_with (first
        | (go_at_call 11; refine (HC _ HWR.out).out.mono ?_; rintro e w2 ⟨z, rfl, hzv, hzi, hb⟩
           have hsz2 := hb.size
           have hlit : SlE AV.enc 4 (w2.alloc (.cells #[.int .u8 z.k, .string z.t, .slice z.la z.l.length z.lc, .slice z.ka z.ks.length z.kc] 26)) w2.heap.size (w2.heap.size + 1) (some ⟨w2.heap.size, 0, none⟩) [z] := lit_sl (enc := AV.enc) (size := 4) (l := [z]) (t := 26) (fr := (0, 0)) AV.enc_len (heap_alloc_new _ _)
           obtain ⟨v', W', hrun, hown', hgr, hat⟩ := app_val (c := 1) (own_below (own_below HOW.out hb) ((Below.refl _ _).alloc (Nat.le_refl _) _)) hlit (by have := HYL.out; simp; omega) (by simp; omega)
           obtain ⟨ys', hys'⟩ : ∃ ys', ys' = ys ++ [z] := ⟨_, rfl⟩
           rw [← hys'] at hown'
           obtain ⟨a', c', rfl⟩ := own_formV hown'
           have HYS' := Lib.hid hys'
           have HOW' := Lib.hid hown'
           have HZI := Lib.hid hzi
           have HZV := Lib.hid hzv
           have HB := Lib.hid hb
           have HGR := Lib.hid hgr
           have HAT := Lib.hid hat
           clear hys' hown' hlit hzi hzv hb hgr hat)
        | (at_builtin; refine wl_append (s := .tmp 15) (x := .tmp 21) rfl rfl (hrun _) ?_; clear hrun))
      have hgr := HGR.out
      have hsz3 := hgr.size
      rw [World.size_alloc] at hsz3
      have hnew : ∀ q, (Value.slice a' ys'.length c').ownBlock = some q → (Value.slice a ys.length c).ownBlock = some q ∨ q = w2.heap.size + 1 := fun q hq => by
        rcases HAT.out with e | e
        · exact .inl (e ▸ hq)
        · rw [hq, World.size_alloc] at e
          injection e with e
          exact .inr e
      have hblk : ∀ q, q < w2.heap.size → (∀ g, (Value.slice a ys.length c).ownBlock = some g → q ≠ g) → W'.heap[q]? = w2.heap[q]? := fun q hq hne => by
        rw [hgr.block q (by rw [World.size_alloc]; omega) (fun e => hne q e.symm rfl), heap_alloc_old _ _ _ hq]
      refine ⟨⟨m + 1, ys', a', c', by omega, by go_num, by rw [HYS'.out]; simp [HYL.out], ?_, rfl, HOW'.out, ?_, ?_⟩, by simp [intOf]; omega⟩
      · rw [HYS'.out, List.map_append, HYV.out, List.take_add_one, List.getElem?_map, HK.out, List.map_singleton, HZV.out]; rfl
      · have key : ∀ (r : AV) lo hi, r.Tw w2 lo hi → w.heap.size ≤ lo → hi ≤ w2.heap.size → (∀ q, (Value.slice a ys.length c).ownBlock = some q → ¬ (lo ≤ q ∧ q < hi)) → ∃ lo hi, r.Tw W' lo hi ∧ w.heap.size ≤ lo ∧ hi ≤ W'.heap.size ∧ ∀ q, (Value.slice a' ys'.length c').ownBlock = some q → ¬ (lo ≤ q ∧ q < hi) := by
          intro r lo hi h1 h2 h3 h4
          refine ⟨lo, hi, h1.kept (by omega) (fun q q1 q2 q3 => hblk q q3 fun g hg e => h4 g hg ⟨by omega, by omega⟩), h2, by omega, fun q hq hc => ?_⟩
          rcases hnew q hq with e | e
          · exact h4 q e hc
          · omega
        intro r hr
        rw [HYS'.out] at hr
        rcases List.mem_append.1 hr with hr | hr
        · obtain ⟨lo, hi, h1, h2, h3, h4⟩ := HYR.out r hr
          exact key r lo hi (h1.blw HB.out h3) h2 (by omega) h4
        · simp at hr; subst hr
          exact key _ wr.heap.size w2.heap.size HZI.out hzr (Nat.le_refl _) fun q hq hc => by have := HGL.out q hq; omega
      · exact (HWR.out.trans ((HB.out.mono hzr).trans ((Below.refl _ _).alloc (by omega) _))).grown hgr (by simp; omega) (fun q hq => (HGL.out q hq).1)
    · obtain rfl : m = x.l.length := by omega
      have hge : ¬ (x.l.length : Int) < (x.l.length : Int) := by omega
      have hyl7 : ys.length + 1 ≤ 16777216 := by have := HYL.out; omega
      have hys : ys.map AV.v = x.l.map AV.v := by rw [HYV.out]; exact List.take_of_length_le (by simp)
      have hba : Below wr.heap.size wr (wr.alloc (.cells #[.int .u8 0, .string ⟨#[109, 97, 114, 107]⟩, .slice none 0 0, .slice none 0 0] 26)) := (Below.refl _ _).alloc (Nat.le_refl _) _
      obtain ⟨v', W', hrun, hown', hgr, hat⟩ := app_val (c := 1) (own_below HOW.out hba) (lit_markV wr) (by simp; omega) (by simp; omega)
      obtain ⟨g, c3, rfl, hg1, hg2⟩ := World.ownsRow.form hown' (by simp)
      rw [List.length_append, List.length_singleton, HYL.out] at hrun
      have hcap := own_cap hown' rfl
      rw [List.length_append, List.length_singleton, HYL.out] at hcap
      have hcap' : (x.l.length : Int) ≤ (c3 : Int) := by omega
      have HYS := Lib.hid hys
      have HOW' := Lib.hid hown'
      have HGR := Lib.hid hgr
      have hst := hgr.size
      rw [World.size_alloc] at hst
      have HBA := Lib.hid hba
      clear hys hown' hgr hat HI hba hyl7
      rw [HYL.out]
      go_wp2_with (at_builtin; refine wl_append (s := .tmp 23) (x := .tmp 25) rfl rfl (hrun _) ?_; clear hrun)
      go_ret
      refine ⟨⟨some ⟨g, 0, none⟩, ys, c3⟩, ?_, HYS.out, ⟨own_sl AV.enc_len HOW'.out, by show ys.length < c3; rw [HYL.out]; exact hcap, fun u hu => ?_⟩, ?_⟩
      · show _ = Ending.returned (.slice (some ⟨g, 0, none⟩) ys.length c3)
        rw [HYL.out]; rfl
      · obtain ⟨lo, hi, h1, h2, h3, h4⟩ := HYR.out u hu
        exact ((h1.blw HBA.out h3).kept (by rw [World.size_alloc]; exact hst) fun q q1 q2 q3 => HGR.out.block q q3 fun e => h4 q e.symm ⟨q1, q2⟩).widen h2 (by omega)
      · exact (HWR.out.trans (HBA.out.mono hzr)).grown HGR.out (by simp; omega) (fun q hq => (HGL.out q hq).1)

set_option maxRecDepth 100000 in
set_option maxHeartbeats 3200000 in
theorem left23_c (w : World) (x t : LA) (he : t.v = x.v) (ht : t.Tw w 0 w.heap.size) (hx : x.Rd w) : Calls Tryz.prog 36 #[.slice t.a t.l.length t.c, .slice x.a x.l.length x.c] w (Ret (.bool true) w) := by
  obtain ⟨ta, l, tc⟩ := t
  have hlb := hx.len
  have hlen : l.length = x.l.length := by have := congrArg List.length he; simpa [LA.v] using this
  have hcap := ht.cap
  have hsl := ht.sl
  have hkid := fun y hy => ht.kid y hy
  simp only at hcap hsl hkid
  obtain ⟨lb, lo, rfl, -, -, hlb1, hlc⟩ := hsl (by simp)
  have ml : w.cell? ⟨lb, lo + l.length * 4 + 1, none⟩ = some (.string ⟨#[109, 97, 114, 107]⟩) := hlc l.length mAV (by simp) 1 _ rfl
  rw [hlen] at ml hcap
  have HL := Lib.hid (show SlE AV.enc 4 w 0 w.heap.size (some ⟨lb, lo, none⟩) l from sl_front hsl)
  have HX := Lib.hid hx
  have HLEN := Lib.hid hlen
  have HE3 := Lib.hid he
  have HI := fun (y y' : AV) (hy : y ∈ x.l) (hy' : y' ∈ l) (hv : y'.v = y.v) (W : World) (hb : Below w.heap.size w W) => Lib.hid (left14_c y y' W hv ((hkid y' hy').up hb) (((hx.kids y hy).1).up hb) (hx.kids y hy).2)
  show Calls Tryz.prog 36 #[.slice (some ⟨lb, lo, none⟩) l.length tc, .slice x.a x.l.length x.c] w (Ret (.bool true) w)
  rw [hlen]
  have hw1 : IntKind.i64.wrap ((x.l.length : Int) + 1) = (x.l.length : Int) + 1 := IntWalk.i64_in _ (by omega)
  have hn1 : (0 : Int) ≤ (x.l.length : Int) + 1 := by omega
  have hn3 : (x.l.length : Int) + 1 ≤ (tc : Int) := by omega
  clear hsl hkid hlc he hlen ht hx
  go_enter Tryz.func36, Tryz.ntmps36
  go_wp2_with fail
  go_loopw [5] (fun i wr => ∃ m : Nat, m ≤ x.l.length ∧ i = .int .i64 m ∧ Below w.heap.size w wr) (fun i _ => x.l.length - (intOf i).toNat)
  case atStart => exact ⟨0, Nat.zero_le _, by go_num, Below.refl _ _⟩
  case round =>
    obtain ⟨m2, hm2, rfl, hbw⟩ := hrel
    have hsr := hbw.size
    have HBWR2 := Lib.hid hbw
    by_cases hlt2 : m2 < x.l.length
    · have hk : x.l[m2]? = some x.l[m2] := List.getElem?_eq_getElem hlt2
      have hmem : x.l[m2] ∈ x.l := List.getElem_mem hlt2
      generalize x.l[m2] = y at hk hmem
      obtain ⟨y', hk', hv⟩ : ∃ y', l[m2]? = some y' ∧ y'.v = y.v := by
        have h := congrArg (fun q => q[m2]?) HE3.out
        simp only [LA.v, List.getElem?_map, hk, Option.map_some] at h
        cases hy : l[m2]? with
        | none => rw [hy] at h; cases h
        | some y' => rw [hy] at h; exact ⟨y', rfl, by simpa using h⟩
      have hmem' : y' ∈ l := List.mem_of_getElem? hk'
      obtain ⟨b1, o1, h1, -, -, g1, c0, c1, c2, c3⟩ := vals_at HL.out hk'
      obtain ⟨b2, o2, h2, -, -, g2, d0, d1, d2, d3⟩ := vals_at HX.out.sl hk
      cases h1
      rw [← hbw.cell (p := ⟨_, _, none⟩) g1] at c0 c1 c2 c3
      rw [← hbw.cell (p := ⟨_, _, none⟩) g2] at d0 d1 d2 d3
      have hlt2' : (m2 : Int) < (x.l.length : Int) := by omega
      have hm0 : (0 : Int) ≤ (m2 : Int) := by omega
      have g1' : lb < wr.heap.size := by omega
      have g2' : b2 < wr.heap.size := by omega
      have hwm : IntKind.i64.wrap ((m2 : Int) + 1) = ((m2 + 1 : Nat) : Int) := by rw [IntWalk.i64_in _ (by omega)]; omega
      have HC := fun W h => HI y y' hmem hmem' hv W h
      have H2 := Lib.hid h2
      clear hbw hk hk' hmem hmem' hv HI h2 ml
      rw [H2.out]
      go_upto_region 6 with fail
      go_region_held3 (fun w' => (∀ b o, b < wr.heap.size → w'.cell? ⟨b, o, none⟩ = wr.cell? ⟨b, o, none⟩) ∧ Below wr.heap.size wr w')
        (first | (with_reducible exact Q1.out) | exact ⟨fun _ _ _ => rfl, (Below.refl _ _).drew⟩)
        (first | (go_at_call 28; refine (HC _ (s_below (N := wr.heap.size) HBWR2.out (by omega) (by assumption))).out.mono ?_; rintro e w4 ⟨rfl, hb4⟩; have Q1 := Lib.hid (s_step (Nat.le_refl _) (by assumption) hb4)))
      go_wp2_with fail
      exact ⟨⟨m2 + 1, by omega, by go_num, HBWR2.out.trans (Q1.out.2.mono hsr)⟩, by simp [intOf]; omega⟩
    · have hge2 : ¬ (m2 : Int) < (x.l.length : Int) := by omega
      clear hbw
      go_wp2_with fail
      go_ret
      exact ⟨rfl, HBWR2.out⟩
end Go.Proofs.YtjihepdjcbpgoaaGreatDoor

namespace Go.Proofs.YtjihepdjcbpgoaaGreatDoor
open Go.RowKit Go.Sort

theorem LA.Tw.rd {w w2 : World} {t x : LA} (h : t.Tw w 0 w.heap.size) (he : t.v = x.v) (hx : x.Rd w2) : t.Rd w := by
  refine ⟨sl_front h.sl, ?_, fun y hy => ⟨(h.kid y hy).rd, ?_⟩⟩
  · have := congrArg List.length he
    rw [LA.v, LA.v, List.length_map, List.length_map] at this
    rw [this]; exact hx.len
  · have hm : y.v ∈ x.v := by rw [← he, LA.v]; exact List.mem_map_of_mem hy
    obtain ⟨z, hz, e⟩ := List.mem_map.1 hm
    have : y.w = z.w := by show y.v.w = z.v.w; rw [e]
    rw [this]; exact (hx.kids z hz).2
theorem LA.Tw.blw {w w' : World} {lo hi B : Nat} {x : LA} (h : x.Tw w lo hi) (hb : Below B w w') (hB : hi ≤ B) : x.Tw w' lo hi := ⟨h.sl.below hb hB, h.cap, fun y hy => (h.kid y hy).blw hb hB⟩


theorem own_someC {w : World} {base cap n : Nat} {a : Option Addr} {xs : List Value} {e : TypeId} (h : w.ownsRow base e 7 (.slice a n cap) n xs) (hn : 0 < n) : ∃ g, a = some ⟨g, 0, none⟩ ∧ base ≤ g ∧ g < w.heap.size := by
  obtain ⟨g, cap', hv, h1, h2⟩ := h.form hn
  cases hv
  exact ⟨g, rfl, h1, h2⟩
set_option maxRecDepth 100000 in
set_option maxHeartbeats 3200000 in
theorem eqi_span (w : World) (p q : Nat) : (Op.equalIn 10000 63 (.agg #[.int .i64 p, .int .i64 q]) (.agg #[.int .i64 p, .int .i64 q])).run Tryz.prog w = .ok true w := by
  simp [go_sem]
set_option maxRecDepth 100000 in
set_option maxHeartbeats 3200000 in
theorem same_c23 (w : World) (a b : Option Addr) (ca cb : Nat) (C : List Ck) (hA : SlE Ck.enc 7 w 0 w.heap.size a C) (hB : SlE Ck.enc 7 w 0 w.heap.size b C) (hl : C.length ≤ 4194304) :
    Calls Tryz.prog 44 #[.slice a C.length ca, .slice b C.length cb] w (Ret (.bool true) w) := by
  have HA := Lib.hid hA
  have HB := Lib.hid hB
  clear hA hB
  go_enter Tryz.func44, Tryz.ntmps44
  go_wp2_with fail
  go_loopw [4, 5] (fun _ s5 wr => ∃ k : Nat, k ≤ C.length ∧ s5 = .int .i64 k ∧ Below w.heap.size w wr) (fun _ s5 _ => C.length - (intOf s5).toNat)
  case atStart => exact ⟨0, Nat.zero_le _, by go_num, Below.refl _ _⟩
  case round =>
    obtain ⟨k, hk, rfl, hb⟩ := hrel
    have HBR := Lib.hid hb
    by_cases hkl : k < C.length
    · have hkl' : (k : Int) < (C.length : Int) := by omega
      have hk0 : (0 : Int) ≤ (k : Int) := by omega
      have hwk : IntKind.i64.wrap ((k : Int) + 1) = ((k + 1 : Nat) : Int) := by rw [IntWalk.i64_in _ (by omega)]; omega
      obtain ⟨c, hc⟩ : ∃ c, C[k]? = some c := ⟨_, List.getElem?_eq_getElem hkl⟩
      obtain ⟨b1, o1, e1, g1, q1⟩ := cr_cells HA.out hc
      obtain ⟨b2, o2, e2, g2, q2⟩ := cr_cells HB.out hc
      subst e1
      subst e2
      obtain ⟨st, f, t⟩ := c
      simp only at q1 q2
      have hs1 : ∀ W : World, _ := fun W => eqi_span W f.b t.b
      have hs2 : ∀ W : World, _ := fun W => eqi_span W f.l t.l
      have hs3 : ∀ W : World, _ := fun W => eqi_span W f.r t.r
      have LD := Lib.hid (fun W (h : Below wr.heap.size wr W) => And.intro (q1 W ((h.block b1 (Nat.lt_of_lt_of_le g1 hb.size)).trans (hb.block b1 g1))) (And.intro (q2 W ((h.block b2 (Nat.lt_of_lt_of_le g2 hb.size)).trans (hb.block b2 g2))) (And.intro (hs1 W) (And.intro (hs2 W) (hs3 W)))))
      clear q1 q2 hs1 hs2 hs3 hb hc
      go_upto_region 6 with fail
      go_cut [66] (fun s66 wx => s66 = .bool false ∧ Below wr.heap.size wr wx)
      case first =>
        cases st with
        | false =>
          refine wp_region_bl (by kernel_rfl) (by kernel_rfl) ?_
          repeat (first | go_big_quiet_skip | (go_big_quiet_want; go_big_quiet_op; first | go_big_quiet_on | (refine ⟨_, fun _ _ => (by with_reducible rfl), ?_⟩; go_big_quiet_on) | (apply Exists.intro; refine ⟨fun w' hC => (by simp only [LD.out w' hC, Result.andThen]; exact ⟨trivial, rfl⟩), ?_⟩; go_big_quiet_on)))
          refine wpQuiet_nil ?_; intro wz hbz
          go_wp2_with fail
          go_meet
          exact ⟨rfl, hbz⟩
        | true =>
          refine wp_region_bl (by kernel_rfl) (by kernel_rfl) ?_
          repeat (first | go_big_quiet_skip | (go_big_quiet_want; go_big_quiet_op; first | go_big_quiet_on | (refine ⟨_, fun _ _ => (by with_reducible rfl), ?_⟩; go_big_quiet_on) | (apply Exists.intro; refine ⟨fun w' hC => (by simp only [LD.out w' hC, Result.andThen]; exact ⟨trivial, rfl⟩), ?_⟩; go_big_quiet_on)))
          refine wpQuiet_nil ?_; intro wz hbz
          go_wp2_with fail
          go_meet
          exact ⟨rfl, hbz⟩
      case rest =>
        obtain ⟨rfl, hb2⟩ := hcut
        go_wp2_with fail
        exact ⟨⟨k + 1, by omega, by go_num, below_via HBR.out hb2⟩, by simp [intOf]; omega⟩
    · obtain rfl : k = C.length := by omega
      have hge : ¬ (C.length : Int) < (C.length : Int) := by omega
      clear hb
      go_wp2_with fail
      go_ret
      exact ⟨rfl, HBR.out⟩
theorem la_len {x y : LA} (h : y.v = x.v) : y.l.length = x.l.length := by
  have := congrArg List.length h
  rwa [LA.v, LA.v, List.length_map, List.length_map] at this
set_option maxRecDepth 100000 in
set_option maxHeartbeats 3200000 in
theorem cof (w : World) (x y z : LA) (hx : x.Rd w) (hy : y.Rd w) (hz : z.Rd w) (hP : Pow w) :
    Calls Tryz.prog 8 #[.slice x.a x.l.length x.c, .slice y.a y.l.length y.c, .slice z.a z.l.length z.c] w (Ret (.bool true) w) := by
  have HLV := fun W (h : Below w.heap.size w W) => Lib.hid (lives23_c W (hP.below h))
  have HT1 := fun W (h : Below w.heap.size w W) => Lib.hid (twin23_c W x (hx.up h))
  have HT2 := fun W (h : Below w.heap.size w W) => Lib.hid (twin23_c W y (hy.up h))
  have HT3 := fun W (h : Below w.heap.size w W) => Lib.hid (twin23_c W z (hz.up h))
  have HR := fun W (h : Below w.heap.size w W) => Lib.hid (rof_c W x y z (hx.up h) (hy.up h) (hz.up h))
  have hba := (Below.refl w.heap.size w).alloc (Nat.le_refl _) (.cells #[.slice x.a x.l.length x.c, .slice y.a y.l.length y.c, .slice z.a z.l.length z.c] 23)
  have HG := Lib.hid (show Calls Tryz.prog 30 #[.slice (some ⟨w.heap.size, 0, none⟩) 3 3] _ (RetB _) from
    great23_c (w.alloc (.cells #[.slice x.a x.l.length x.c, .slice y.a y.l.length y.c, .slice z.a z.l.length z.c] 23)) (some ⟨w.heap.size, 0, none⟩) 3 [x, y, z] ((lit_sl (enc := LA.enc) (size := 1) (l := [x, y, z]) (t := 23) (fr := (0, 0)) (fun _ => rfl) (heap_alloc_new w _)).widen (Nat.zero_le _) (by simp)) (fun v hv => by
      simp only [List.mem_cons, List.not_mem_nil, or_false] at hv
      rcases hv with rfl | rfl | rfl
      · exact hx.up hba
      · exact hy.up hba
      · exact hz.up hba) (by simp))
  have HX := Lib.hid hx
  have HY := Lib.hid hy
  have HZ := Lib.hid hz
  have HP := Lib.hid hP
  have HBA := Lib.hid hba
  clear hx hy hz hP hba
  go_enter Tryz.func8, Tryz.ntmps8
  go_upto_if 17 with (
    go_at_call 30
    refine HG.out.mono ?_
    rintro e w1 ⟨r, rfl, hb1⟩
    have HB1 := Lib.hid (below_via HBA.out hb1)
    clear hb1
    cases r)
  · go_upto_region 8 with (first
      | (go_at_call 32; first
          | (have k1 := HB3; (with_reducible refine (HT3 _ HB3.out).out.mono ?_); rintro e w4 ⟨Z, rfl, hvz, hTz, hb4⟩
             have HB4 := Lib.hid (below_via HB3.out hb4)
             have HVZ := Lib.hid hvz
             have HTZ := Lib.hid (hTz.widen (Nat.zero_le _) (Nat.le_refl _))
             have HTX4 := Lib.hid (HTX3.out.up hb4)
             have HTY4 := Lib.hid (HTY.out.up hb4)
             clear hvz hTz)
          | (have k1 := HB2; (with_reducible refine (HT2 _ HB2.out).out.mono ?_); rintro e w3 ⟨Y, rfl, hvy, hTy, hb3⟩
             have HB3 := Lib.hid (below_via HB2.out hb3)
             have HVY := Lib.hid hvy
             have HTY := Lib.hid (hTy.widen (Nat.zero_le _) (Nat.le_refl _))
             have HTX3 := Lib.hid (HTX.out.up hb3)
             clear hvy hTy)
          | ((with_reducible refine (HT1 _ HB1.out).out.mono ?_); rintro e w2 ⟨X, rfl, hvx, hTx, hb2⟩
             have HB2 := Lib.hid (below_via HB1.out hb2)
             have HVX := Lib.hid hvx
             have HTX := Lib.hid (hTx.widen (Nat.zero_le _) (Nat.le_refl _))
             clear hvx hTx))
      | (go_at_call 42
         refine (of_c w4 X Y Z (HTX4.out.rd HVX.out HX.out) (HTY4.out.rd HVY.out HY.out) (HTZ.out.rd HVZ.out HZ.out) (HP.out.below HB4.out)).mono ?_
         rintro e w5 ⟨P, Q, C, a, cap, heP, heQ, hC, hCl, rfl, hown, hb5⟩
         have HEP := Lib.hid heP
         have HEQ := Lib.hid heQ
         have HC := Lib.hid hC
         have HOW := Lib.hid hown
         have HB5 := Lib.hid (below_via HB4.out hb5)
         have HB45 := Lib.hid hb5
         clear heP heQ hC hown hb5)
      | (go_at_call 43
         refine (HR _ HB5.out).out.mono ?_
         rintro e w6 ⟨P2, Q2, D, b, cb, heP, heQ, hD, -, rfl, hownd, hb6⟩
         have hDC : D = C := by
           have e1 := HEP.out
           have e2 := HEQ.out
           rw [HVX.out, HVY.out] at e1
           rw [HVX.out, HVZ.out] at e2
           rw [hD, HC.out, early_one heP e1, early_one heQ e2, la_len HVX.out, la_len HVY.out, la_len HVZ.out]
         subst hDC
         have HOD := Lib.hid hownd
         have HB6 := Lib.hid (below_via HB5.out hb6)
         have HB56 := Lib.hid hb6
         clear heP heQ hD hownd hb6))
    have HGA := Lib.hid (fun (g : Nat) (hg : (Value.slice a D.length cap).ownBlock = some g) => (World.ownsRow.lt HOW.out g hg).2)
    have hs45 := HB45.out.size
    have hs56 := HB56.out.size
    have HS1 := Lib.hid (same_c23 w6 a b D.length cb D ((((own_sl Ck.enc_len HOW.out).widen (Nat.zero_le _) (Nat.le_refl _)).up HB56.out)) ((own_sl Ck.enc_len HOD.out).widen (Nat.zero_le _) (Nat.le_refl _)) (by omega))
    have HB46 := Lib.hid (below_via HB45.out HB56.out)
    have HL1 := fun W (h : Below w6.heap.size w6 W) => Lib.hid (left23_c W x X HVX.out ((HTX4.out.up HB46.out).up h) (HX.out.up (below_via HB6.out h)))
    have HL2 := fun W (h : Below w6.heap.size w6 W) => Lib.hid (left23_c W y Y HVY.out ((HTY4.out.up HB46.out).up h) (HY.out.up (below_via HB6.out h)))
    have HL3 := fun W (h : Below w6.heap.size w6 W) => Lib.hid (left23_c W z Z HVZ.out ((HTZ.out.up HB46.out).up h) (HZ.out.up (below_via HB6.out h)))
    clear HT1 HT2 HT3 HR
    go_upto_region 10 with (first
      | (go_at_call 44; refine HS1.out.mono ?_; rintro e w7 ⟨rfl, hb7⟩
         have HB7 := Lib.hid hb7
         clear hb7)
      | (go_at_call 36; first
          | ((with_reducible refine (HL1 _ HB7.out).out.mono ?_); rintro e w8 ⟨rfl, hb8⟩
             have HB8 := Lib.hid (below_via HB7.out hb8)
             clear hb8)
          | ((with_reducible refine (HL2 _ HB8.out).out.mono ?_); rintro e w9 ⟨rfl, hb9⟩
             have HB9 := Lib.hid (below_via HB8.out hb9)
             clear hb9)
          | ((with_reducible refine (HL3 _ HB9.out).out.mono ?_); rintro e w10 ⟨rfl, hb10⟩
             have HBA := Lib.hid (below_via HB9.out hb10)
             clear hb10)))
    have HO10 := Lib.hid (own_below (own_below HOW.out HB56.out) HBA.out)
    have HD10 := Lib.hid (own_below HOD.out HBA.out)
    have hsA := HBA.out.size
    clear HS1 HL1 HL2 HL3 HB7 HB8 HB9
    go_wp2_with fail
    go_loopw [12] (fun s12 wr => ∃ (m : Nat) (xs : List Value), m ≤ D.length ∧ s12 = .int .i64 m ∧ wr.ownsRow w4.heap.size 65 7 (.slice a D.length cap) D.length xs ∧ OwnCr wr w5.heap.size (.slice b D.length cb) D ∧ Below w4.heap.size w10 wr ∧ wr.heap.size = w10.heap.size) (fun s12 _ => D.length - (intOf s12).toNat)
    case atStart => exact ⟨0, _, Nat.zero_le _, by go_num, HO10.out, HD10.out, Below.refl _ _, rfl⟩
    case round =>
      obtain ⟨m, xs, hm, rfl, hox, hod, hb, hsz⟩ := hrel
      have HB := Lib.hid hb
      have HSZ := Lib.hid hsz
      by_cases hlt : m < D.length
      · obtain ⟨g, hla, hg1, hg2⟩ := own_someC hox (by omega)
        have hg3 := HGA.out g (by rw [hla]; rfl)
        subst hla
        have hlt' : (m : Int) < (D.length : Int) := by omega
        have hm0 : (0 : Int) ≤ (m : Int) := by omega
        have hwm : IntKind.i64.wrap ((m : Int) + 1) = ((m + 1 : Nat) : Int) := by rw [IntWalk.i64_in _ (by omega)]; omega
        obtain ⟨u, hu⟩ : ∃ u, wr.cell? ⟨g, m * 7 + 1, none⟩ = some u := by
          have hl := hox.1
          rw [World.ownsRow.cellAt hox _ (by omega)]
          exact ⟨_, List.getElem?_eq_getElem (by omega)⟩
        have hf := World.ownsRow.frozenAt hox (m * 7 + 1)
        have HOX := Lib.hid (World.ownsRow.stored hox (m * 7 + 1) (.int .i64 (-7))).1
        have HOD2 := Lib.hid (show OwnCr (wr.setCell ⟨g, m * 7 + 1, none⟩ (.int .i64 (-7))) w5.heap.size (.slice b D.length cb) D from own_keep hod fun q hq => Below.heap_setCell _ _ _ q (by have := (World.ownsRow.lt hod q hq).1; show q ≠ g; omega))
        have HBN := Lib.hid (hb.setCell (p := ⟨g, m * 7 + 1, none⟩) hg1 (.int .i64 (-7)))
        clear hox hod hb hsz
        go_wp2_with fail
        exact ⟨⟨m + 1, _, by omega, by go_num, HOX.out, HOD2.out, HBN.out, by simpa using HSZ.out⟩, by simp [intOf]; omega⟩
      · obtain rfl : m = D.length := by omega
        have hge : ¬ (D.length : Int) < (D.length : Int) := by omega
        have hb4 : Below w4.heap.size w4 wr := ((HB46.out.trans ((HBA.out).mono (by omega)))).trans HB.out
        have HBW := Lib.hid (below_via HB4.out hb4)
        have HO2 := Lib.hid (of_c wr X Y Z ((HTX4.out.rd HVX.out HX.out).up hb4) ((HTY4.out.rd HVY.out HY.out).up hb4) ((HTZ.out.rd HVZ.out HZ.out).up hb4) (HP.out.below HBW.out))
        have HODW := Lib.hid hod
        clear hox hod hb hb4 hsz
        go_wp2_with (first
          | (go_at_call 42
             refine HO2.out.mono ?_
             rintro e w11 ⟨P3, Q3, C3, a3, cap3, heP, heQ, hC3, -, rfl, hown3, hb11⟩
             have hCD : C3 = D := by rw [hC3, HC.out, early_one heP HEP.out, early_one heQ HEQ.out]
             subst hCD
             have HB11 := Lib.hid (below_via HBW.out hb11)
             have HSM := Lib.hid (same_c23 w11 a3 b C3.length cb C3 ((own_sl Ck.enc_len hown3).widen (Nat.zero_le _) (Nat.le_refl _)) (((own_sl Ck.enc_len HODW.out).widen (Nat.zero_le _) (Nat.le_refl _)).up hb11) (by omega))
             clear heP heQ hC3 hown3 hb11)
          | (go_at_call 44; refine HSM.out.mono ?_; rintro e w12 ⟨rfl, hb12⟩
             have HB12 := Lib.hid (below_via HB11.out hb12)
             clear hb12)
          | (go_at_call 41; refine (HLV _ HB12.out).out.mono ?_; rintro e w13 ⟨rfl, hb13⟩))
        go_ret
        exact ⟨rfl, below_via HB12.out hb13⟩
  · go_wp2_with (go_at_call 41; refine (HLV _ HB1.out).out.mono ?_; rintro e w5 ⟨rfl, hb5⟩)
    go_ret
    exact ⟨rfl, below_via HB1.out hb5⟩
end Go.Proofs.YtjihepdjcbpgoaaGreatDoor
