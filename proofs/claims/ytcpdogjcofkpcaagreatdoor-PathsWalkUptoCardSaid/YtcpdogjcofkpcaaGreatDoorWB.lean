/-
  paths.step and Walk: as plain functions. Conditions: the tree and the steps lie in memory, their weights are bounded; the table of short escapes holds what its initialiser lays.
-/
import Derived.Test.YtcpdogjcofkpcaaGreatDoorWA
import Derived.Test.YtcpdogjcofkpcaaGreatDoorSO
namespace Go.Proofs.YtcpdogjcofkpcaaGreatDoor
open Go.RowKit Go.Sort

/-- What a step hands back: a part itself, or a copy. -/
def StepPost (x : AV) (o : Option Val) (w : World) (e : Ending) (w' : World) : Prop :=
  ∃ z : AV, e = .returned (.tuple #[z.val, .bool o.isSome]) ∧ (∀ u, o = some u → z.v = u ∧ (z ∈ x.l ∨ z.In w' w.heap.size w'.heap.size)) ∧ (o = none → z = zAV) ∧ Below w.heap.size w w'
theorem step_no {x : AV} {o : Option Val} {w w' : World} (h : o = none) (hb : Below w.heap.size w w') : StepPost x o w (.returned (.tuple #[.agg #[.int .u8 0, .string ⟨#[]⟩, .slice none 0 0, .slice none 0 0], .bool false])) w' :=
  ⟨zAV, by rw [h]; rfl, (fun u hu => by rw [h] at hu; cases hu), fun _ => rfl, hb⟩
theorem step_yes {x : AV} {o : Option Val} {w w' : World} {z : AV} (h : o = some z.v) (hz : z ∈ x.l ∨ z.In w' w.heap.size w'.heap.size) (hb : Below w.heap.size w w') : StepPost x o w (.returned (.tuple #[.agg #[.int .u8 z.k, .string z.t, .slice z.la z.l.length z.lc, .slice z.ka z.ks.length z.kc], .bool true])) w' :=
  ⟨z, by rw [h]; rfl, (fun u hu => by rw [h] at hu; cases hu; exact ⟨rfl, hz⟩), (fun hn => by rw [h] at hn; cases hn), hb⟩
set_option maxRecDepth 100000 in
set_option maxHeartbeats 6400000 in
theorem pstep_c (x : AV) (s : St) (w : World) (hx : Rd w x) (hw : x.w ≤ 1048576) (hS : Shorts w) (ha : 0 ≤ s.a) :
    Calls Tryz.prog 108 #[x.val, s.val] w (StepPost x (x.v.stp s) w) := by
  have hll := x.w_l
  have hB0 := tri_0 (w := w) (o1 := .cells #[.int .u8 x.k, .string x.t, .slice x.la x.l.length x.lc, .slice x.ka x.ks.length x.kc] 48) (o2 := .cells #[.int .u8 s.k, .string s.t, .string s.i, .int .i64 s.a] 90) (o3 := .cells #[.int .u8 0, .string ⟨#[]⟩, .slice none 0 0, .slice none 0 0] 48)
  have hb0 := tri_b (w := w) (o1 := .cells #[.int .u8 x.k, .string x.t, .slice x.la x.l.length x.lc, .slice x.ka x.ks.length x.kc] 48) (o2 := .cells #[.int .u8 s.k, .string s.t, .string s.i, .int .i64 s.a] 90) (o3 := .cells #[.int .u8 0, .string ⟨#[]⟩, .slice none 0 0, .slice none 0 0] 48)
  have HX := Lib.hid hx
  have HSH := Lib.hid hS
  clear hx hS
  by_cases h0 : s.k = 0
  · have e0 : (s.k == 0) = true := by simp [h0]
    have ho : x.v.stp s = x.v.get s.t := by unfold Val.stp; rw [if_pos h0]
    rw [ho]
    clear ho h0
    cases hg : x.v.get s.t with
    | none =>
      have HG := fun W (h : Below w.heap.size w W) => Lib.hid (got_n hg W (HX.out.up h) hw)
      clear hg
      go_enter Tryz.func108, Tryz.ntmps108
      go_wp2_with (
        go_at_call 44; refine (HG _ hb0).out.mono ?_; rintro e w1 ⟨rfl, hb1⟩
        have hB1 := tri_step (N := w.heap.size + 1 + 1 + 1) hB0 hb1 (by simp)
        obtain ⟨k1, k2, k3, k4, k5⟩ := tri_at hB1
        obtain ⟨s0, s1, s2, s3, y0, y1, y2, y3⟩ := vbox4 k3)
      refine bodyPost_ret (v := .tuple #[.agg #[.int .u8 0, .string ⟨#[]⟩, .slice none 0 0, .slice none 0 0], .bool false]) (by simp [results, Tryz.results108, go_sem, s0, s1, s2, s3, zAV]) rfl (step_no rfl (below4 k5 (by omega)))
    | some u =>
      have HG := fun W (h : Below w.heap.size w W) => Lib.hid (got_s hg W (HX.out.up h) hw)
      clear hg
      go_enter Tryz.func108, Tryz.ntmps108
      go_wp2_with (
        go_at_call 44; refine (HG _ hb0).out.mono ?_; rintro e w1 ⟨z, rfl, hzv, hzi, hb1⟩
        have hB1 := tri_step (N := w.heap.size + 1 + 1 + 1) hB0 hb1 (by simp)
        obtain ⟨k1, k2, k3, k4, k5⟩ := tri_at hB1
        obtain ⟨s0, s1, s2, s3, y0, y1, y2, y3⟩ := vbox4 k3)
      refine bodyPost_ret (v := .tuple #[.agg #[.int .u8 z.k, .string z.t, .slice z.la z.l.length z.lc, .slice z.ka z.ks.length z.kc], .bool true]) (by simp [results, Tryz.results108, go_sem, s0, s1, s2, s3]) rfl (step_yes (by rw [hzv]) (.inr ?_) (below4 k5 (by omega)))
      simp only [World.size_alloc] at hzi
      exact (hzi.kept (Nat.le_of_eq put4_size.symm) fun q h1 _ _ => put4_old (by omega)).widen (by omega) (Nat.le_of_eq put4_size.symm)
  · have e0 : (s.k == 0) = false := by simp [h0]
    by_cases h7 : x.k = 7
    · have e7 : (x.k != 7) = false := by simp [h7]
      by_cases h1 : s.k = 1
      · have e1 : (s.k == 1) = true := by simp [h1]
        have ho : x.v.stp s = x.v.l[s.a.toNat]? := by unfold Val.stp; rw [if_neg h0, AV.v_k, if_pos h7, if_pos h1]
        rw [ho]
        clear ho h0 h7 h1
        obtain ⟨j, hj⟩ : ∃ j : Nat, s.a = (j : Int) := ⟨s.a.toNat, by omega⟩
        have hjn : s.a.toNat = j := by omega
        rw [hjn]
        by_cases hlt : j < x.l.length
        · have hk : x.l[j]? = some x.l[j] := List.getElem?_eq_getElem hlt
          have hmem : x.l[j] ∈ x.l := List.getElem_mem hlt
          generalize x.l[j] = y at hk hmem
          have HO := Lib.hid (show x.v.l[j]? = some y.v by rw [AV.v_l, List.getElem?_map, hk]; rfl)
          obtain ⟨b, off, hla, -, -, gb, c0', c1', c2', c3'⟩ := vals_at HX.out.sl hk
          have c0 := (hb0.cell (p := ⟨_, _, none⟩) gb).trans c0'
          have c1 := (hb0.cell (p := ⟨_, _, none⟩) gb).trans c1'
          have c2 := (hb0.cell (p := ⟨_, _, none⟩) gb).trans c2'
          have c3 := (hb0.cell (p := ⟨_, _, none⟩) gb).trans c3'
          have hlt' : (j : Int) < (x.l.length : Int) := by omega
          have hge' : ¬ (x.l.length : Int) ≤ (j : Int) := by omega
          have hj0 : (0 : Int) ≤ (j : Int) := by omega
          have HMEM := Lib.hid hmem
          clear hk hmem hlt ha hjn
          obtain ⟨k, t, i, a⟩ := s
          simp only at hj e0 e1
          subst hj
          obtain ⟨xk, xt, xla, xlc, xl, xka, xkc, xks⟩ := x
          simp only at hla
          subst hla
          go_enter Tryz.func108, Tryz.ntmps108
          go_wp2_with fail
          refine bodyPost_ret (v := .tuple #[.agg #[.int .u8 y.k, .string y.t, .slice y.la y.l.length y.lc, .slice y.ka y.ks.length y.kc], .bool true]) (by simp [results, Tryz.results108, go_sem]) rfl (step_yes HO.out (.inl HMEM.out) (by repeat (first | exact Below.refl _ _ | refine Below.drew ?_ | refine below_drewN ?_ _ | refine Below.setCell ?_ (by first | omega | (simp; done) | (simp; omega)) _ | refine Below.alloc ?_ (by first | omega | (simp; done) | (simp; omega)) _)))
        · have hn : x.v.l[j]? = none := List.getElem?_eq_none (by rw [AV.v_l, List.length_map]; omega)
          rw [hn]
          have hge' : (x.l.length : Int) ≤ (j : Int) := by omega
          have hlt' : ¬ (j : Int) < (x.l.length : Int) := by omega
          clear hn hlt ha hjn
          obtain ⟨k, t, i, a⟩ := s
          simp only at hj e0 e1
          subst hj
          go_enter Tryz.func108, Tryz.ntmps108
          go_wp2_with fail
          refine bodyPost_ret (v := .tuple #[.agg #[.int .u8 0, .string ⟨#[]⟩, .slice none 0 0, .slice none 0 0], .bool false]) (by simp [results, Tryz.results108, go_sem]) rfl (step_no rfl (by repeat (first | exact Below.refl _ _ | refine Below.drew ?_ | refine below_drewN ?_ _ | refine Below.setCell ?_ (by first | omega | (simp; done) | (simp; omega)) _ | refine Below.alloc ?_ (by first | omega | (simp; done) | (simp; omega)) _)))
      · have e1 : (s.k == 1) = false := by simp [h1]
        have ho : x.v.stp s = (match idxF (fun y => named1 s y.v) x.l with | .ofNat i => (x.l[i]?).map AV.v | .negSucc _ => none) := by
          unfold Val.stp
          rw [if_neg h0, AV.v_k, if_pos h7, if_neg h1, AV.v_l]
          exact idxF_find.symm
        rw [ho]
        clear ho h0 h7 h1
        have HIX := fun W (h : Below w.heap.size w W) (hp : W.heap[w.heap.size + 1]? = some (.cells #[.int .u8 s.k, .string s.t, .string s.i, .int .i64 s.a] 90 (0, 0))) => Lib.hid (indexv_c W x.la x.lc x.l (HX.out.up h).sl (by omega) ⟨w.heap.size + 1, 0, none⟩ (fun y => named1 s y.v) (fun y hy W' h' => step1_c y s (w.heap.size + 1) W' (Rd.up ((HX.out.up h).kid hy) h') (by have := AV.w_kid hy; omega) ((HSH.out.below h).below h') (blk_up h' hp)))
        obtain ⟨j1, j2, j3, j4, j5⟩ := tri_at hB0
        cases hi : idxF (fun y => named1 s y.v) x.l with
        | ofNat i =>
          have hil : i < x.l.length := by
            unfold idxF at hi
            split at hi
            · rename_i q hq
              have : (q : Int) = (i : Int) := hi
              have := (List.findIdx?_eq_some_iff_getElem.1 hq).1
              omega
            · cases hi
          have hk : x.l[i]? = some x.l[i] := List.getElem?_eq_getElem hil
          have hmem : x.l[i] ∈ x.l := List.getElem_mem hil
          have HO := Lib.hid (show (match Int.ofNat i with | .ofNat i => (x.l[i]?).map AV.v | .negSucc _ => none) = some x.l[i].v by show (x.l[i]?).map AV.v = _; rw [hk]; rfl)
          generalize x.l[i] = y at hk hmem HO
          have HK := Lib.hid hk
          have HMEM := Lib.hid hmem
          rw [hi] at HIX
          have hin : ¬ (i : Int) < 0 := by omega
          have hi0 : (0 : Int) ≤ (i : Int) := by omega
          have hil' : (i : Int) < (x.l.length : Int) := by omega
          clear hi hk hmem hil
          go_enter Tryz.func108, Tryz.ntmps108
          go_wp2_with (
            go_at_call 152; refine (HIX _ hb0 j2).out.mono ?_; rintro e w1 ⟨rfl, hb1⟩
            have hB1 := tri_step (N := w.heap.size + 1 + 1 + 1) hB0 hb1 (by simp)
            obtain ⟨k1, k2, k3, k4, k5⟩ := tri_at hB1
            obtain ⟨q0, q1, q2, q3, -, -, -, -⟩ := vbox4 k1
            obtain ⟨s0, s1, s2, s3, y0, y1, y2, y3⟩ := vbox4 k3
            obtain ⟨b, off, hla, -, -, gb, c0, c1, c2, c3⟩ := vals_at (HX.out.up k5).sl HK.out
            have k6 : w.heap.size < w1.heap.size := by omega
            have k7 : b ≠ w.heap.size + 1 + 1 := fun e => by
              obtain ⟨b', off', hla', -, g', -⟩ := vals_at HX.out.sl HK.out
              rw [hla'] at hla
              injection hla with hla; injection hla with hla1 _
              omega
            rw [hla] at q2)
          refine bodyPost_ret (v := .tuple #[.agg #[.int .u8 y.k, .string y.t, .slice y.la y.l.length y.lc, .slice y.ka y.ks.length y.kc], .bool true]) (by simp [results, Tryz.results108, go_sem, s0, s1, s2, s3]) rfl (step_yes HO.out (.inl HMEM.out) (below4 k5 (by omega)))
        | negSucc i =>
          rw [hi] at HIX
          have hin : (Int.negSucc i) < 0 := Int.negSucc_lt_zero i
          generalize Int.negSucc i = n at HIX hin
          clear hi
          go_enter Tryz.func108, Tryz.ntmps108
          go_wp2_with (
            go_at_call 152; refine (HIX _ hb0 j2).out.mono ?_; rintro e w1 ⟨rfl, hb1⟩
            have hB1 := tri_step (N := w.heap.size + 1 + 1 + 1) hB0 hb1 (by simp)
            obtain ⟨k1, k2, k3, k4, k5⟩ := tri_at hB1
            obtain ⟨s0, s1, s2, s3, y0, y1, y2, y3⟩ := vbox4 k3)
          refine bodyPost_ret (v := .tuple #[.agg #[.int .u8 0, .string ⟨#[]⟩, .slice none 0 0, .slice none 0 0], .bool false]) (by simp [results, Tryz.results108, go_sem, s0, s1, s2, s3]) rfl (step_no rfl (below4 k5 (by omega)))
    · have e7 : (x.k != 7) = true := by simp [h7]
      have ho : x.v.stp s = none := by unfold Val.stp; rw [if_neg h0, AV.v_k, if_neg h7]
      rw [ho]
      clear ho h0 h7
      go_enter Tryz.func108, Tryz.ntmps108
      go_wp2_with fail
      refine bodyPost_ret (v := .tuple #[.agg #[.int .u8 0, .string ⟨#[]⟩, .slice none 0 0, .slice none 0 0], .bool false]) (by simp [results, Tryz.results108, go_sem]) rfl (step_no rfl (by repeat (first | exact Below.refl _ _ | refine Below.drew ?_ | refine below_drewN ?_ _ | refine Below.setCell ?_ (by first | omega | (simp; done) | (simp; omega)) _ | refine Below.alloc ?_ (by first | omega | (simp; done) | (simp; omega)) _)))

theorem lies_of_in {w : World} {p s e : Nat} : ∀ y : AV, y.In w s e → y.Lies w p s e := AV.ind fun _ ih h => .new h.sl h.keys h.kind fun z hz => ih z hz (h.kid hz)
theorem AV.Lies.kid {w : World} {p s e : Nat} {x y : AV} (h : x.Lies w p s e) (hy : y ∈ x.l) : y.Lies w p s e := by
  cases h with
  | old h => exact .old (h.kid hy)
  | new _ _ _ h4 => exact h4 y hy
/-- What Walk hands back: a copy. -/
def WalkPost (o : Option Val) (w : World) (e : Ending) (w' : World) : Prop :=
  ∃ y : AV, e = .returned (.tuple #[y.val, .bool o.isSome]) ∧ (∀ u, o = some u → y.v = u) ∧ (o = none → y = zAV) ∧ y.In w' w.heap.size w'.heap.size ∧ Below w.heap.size w w' ∧ y.Mn w' w.heap.size w'.heap.size
theorem zAV_mn (w : World) {lo hi : Nat} (h : lo ≤ hi) : zAV.Mn w lo hi := .mk (fun _ => lo) (Nat.le_refl _) (fun _ => Nat.le_refl _) h (fun h => absurd h (by simp [zAV])) (fun h => absurd h (by simp [zAV])) rfl rfl (by simp [zAV]) (fun i y hy => by simp [zAV] at hy)
theorem zAV_in (w : World) (lo hi : Nat) : zAV.In w lo hi := ⟨SlE.nil, SlE.nil, by simp [zAV], fun y hy => absurd hy List.not_mem_nil⟩
theorem walk_no {o : Option Val} {w w' : World} (h : o = none) (hb : Below w.heap.size w w') : WalkPost o w (.returned (.tuple #[.agg #[.int .u8 0, .string ⟨#[]⟩, .slice none 0 0, .slice none 0 0], .bool false])) w' :=
  ⟨zAV, by rw [h]; rfl, (fun u hu => by rw [h] at hu; cases hu), fun _ => rfl, zAV_in _ _ _, hb, zAV_mn _ hb.size⟩
theorem walk_take {v : Val} {p : List St} {m : Nat} {s : St} (hs : p[m]? = some s) : walkL v (p.take (m + 1)) = (walkL v (p.take m)).bind fun u => u.stp s := by
  rw [List.take_add_one, hs, Option.toList, walkL_app]
  congr 1
  funext u
  exact walkL_one u s
theorem walk_stop {v u : Val} {p : List St} {m : Nat} {s : St} (hs : p[m]? = some s) (h : walkL v (p.take m) = some u) (h2 : u.stp s = none) : walkL v p = none := by
  have h3 := walk_take (v := v) hs
  rw [h] at h3
  have h4 : walkL v (p.take (m + 1) ++ p.drop (m + 1)) = walkL v p := by rw [List.take_append_drop]
  rw [← h4, walkL_app, h3]
  show (Option.bind (some u) fun u => u.stp s).bind _ = none
  simp [h2]
theorem step_post {x : AV} {v : Val} {s : St} {w : World} (hv : x.v.stp s = some v) (h : Calls Tryz.prog 108 #[x.val, s.val] w (StepPost x (x.v.stp s) w)) :
    Calls Tryz.prog 108 #[x.val, s.val] w (fun e w' => ∃ z : AV, e = .returned (.tuple #[z.val, .bool true]) ∧ z.v = v ∧ (z ∈ x.l ∨ z.In w' w.heap.size w'.heap.size) ∧ Below w.heap.size w w') := by
  refine h.mono ?_
  rintro e w' ⟨z, rfl, h1, -, h2⟩
  obtain ⟨h3, h4⟩ := h1 v hv
  exact ⟨z, by rw [hv]; rfl, h3, h4, h2⟩
theorem step_post_n {x : AV} {s : St} {w : World} (hv : x.v.stp s = none) (h : Calls Tryz.prog 108 #[x.val, s.val] w (StepPost x (x.v.stp s) w)) :
    Calls Tryz.prog 108 #[x.val, s.val] w (fun e w' => e = .returned (.tuple #[zAV.val, .bool false]) ∧ Below w.heap.size w w') := by
  refine h.mono ?_
  rintro e w' ⟨z, rfl, -, h1, h2⟩
  rw [h1 hv, hv]
  exact ⟨rfl, h2⟩
set_option maxRecDepth 100000 in
set_option maxHeartbeats 12800000 in
theorem pwalk_c (x : AV) (a : Option Addr) (cap : Nat) (p : List St) (w : World) (hx : Rd w x) (hw : x.w ≤ 1048576) (hS : Shorts w) (hp : Sts w 0 w.heap.size a p) (hl : p.length ≤ 1048576) :
    Calls Tryz.prog 56 #[x.val, .slice a p.length cap] w (WalkPost (walkV x.v p) w) := by
  have hB0 := duo_0 (w := w) (o1 := .cells #[.int .u8 x.k, .string x.t, .slice x.la x.l.length x.lc, .slice x.ka x.ks.length x.kc] 48) (o2 := .cells #[.int .u8 0, .string ⟨#[]⟩, .slice none 0 0, .slice none 0 0] 48)
  have hb0 := duo_b (w := w) (o1 := .cells #[.int .u8 x.k, .string x.t, .slice x.la x.l.length x.lc, .slice x.ka x.ks.length x.kc] 48) (o2 := .cells #[.int .u8 0, .string ⟨#[]⟩, .slice none 0 0, .slice none 0 0] 48)
  have HM16 := fun W (h : Below w.heap.size w W) => Lib.hid (may16 W a cap p (hp.up h) hl)
  have HMV := fun W (h : Below w.heap.size w W) => Lib.hid (may_c W x (hx.up h) hw)
  have HX := Lib.hid hx
  have HP := Lib.hid hp
  have HSH := Lib.hid hS
  clear hx hp hS
  cases hm : mayL p with
  | false =>
    have HF := Lib.hid (show walkV x.v p = none by unfold walkV; rw [hm]; rfl)
    rw [hm] at HM16
    clear hm
    go_enter Tryz.func56, Tryz.ntmps56
    go_wp2_with (
      go_at_call 107; refine (HM16 _ hb0).out.mono ?_; rintro e w1 ⟨rfl, hb1⟩
      have hB1 := tri_step (N := w.heap.size + 1 + 1) hB0 hb1 (by simp)
      obtain ⟨k1, k2, k3, k4⟩ := duo_at hB1
      obtain ⟨s0, s1, s2, s3, y0, y1, y2, y3⟩ := vbox4 k2)
    refine bodyPost_ret (v := .tuple #[.agg #[.int .u8 0, .string ⟨#[]⟩, .slice none 0 0, .slice none 0 0], .bool false]) (by simp [results, Tryz.results56, go_sem, s0, s1, s2, s3]) rfl (walk_no HF.out (below4 k4 (by omega)))
  | true =>
    rw [hm] at HM16
    cases hv : x.v.may with
    | false =>
      have HF := Lib.hid (show walkV x.v p = none by unfold walkV; rw [hv, Bool.and_false]; rfl)
      rw [hv] at HMV
      clear hm hv
      go_enter Tryz.func56, Tryz.ntmps56
      go_wp2_with (first
        | (go_at_call 107; refine (HM16 _ hb0).out.mono ?_; rintro e w1 ⟨rfl, hb1⟩
           have hB1 := tri_step (N := w.heap.size + 1 + 1) hB0 hb1 (by simp)
           obtain ⟨k1, k2, k3, k4⟩ := duo_at hB1
           obtain ⟨q0, q1, q2, q3, -, -, -, -⟩ := vbox4 k1)
        | (go_at_call 31; refine (HMV _ k4).out.mono ?_; rintro e w2 ⟨rfl, hb2⟩
           have hB2 := tri_step (N := w.heap.size + 1 + 1) hB1 hb2 (by simp)
           clear k1 k2 k3 k4
           obtain ⟨k1, k2, k3, k4⟩ := duo_at hB2
           obtain ⟨s0, s1, s2, s3, y0, y1, y2, y3⟩ := vbox4 k2))
      refine bodyPost_ret (v := .tuple #[.agg #[.int .u8 0, .string ⟨#[]⟩, .slice none 0 0, .slice none 0 0], .bool false]) (by simp [results, Tryz.results56, go_sem, s0, s1, s2, s3]) rfl (walk_no HF.out (below4 k4 (by omega)))
    | true =>
      have HF := Lib.hid (show walkV x.v p = walkL x.v p by unfold walkV; rw [hm, hv]; rfl)
      have hall : ∀ s ∈ p, mayS s = true := fun s hs => by
        unfold mayL at hm
        rw [Bool.and_eq_true] at hm
        exact List.all_eq_true.1 hm.2 s hs
      have HALL := Lib.hid hall
      rw [hv] at HMV
      clear hm hv hall
      go_enter Tryz.func56, Tryz.ntmps56
      go_wp2_with (first
        | (go_at_call 107; refine (HM16 _ hb0).out.mono ?_; rintro e w1 ⟨rfl, hb1⟩
           have hB1 := tri_step (N := w.heap.size + 1 + 1) hB0 hb1 (by simp)
           obtain ⟨k1, k2, k3, k4⟩ := duo_at hB1
           obtain ⟨q0, q1, q2, q3, -, -, -, -⟩ := vbox4 k1)
        | (go_at_call 31; refine (HMV _ k4).out.mono ?_; rintro e w2 ⟨rfl, hb2⟩
           have hB2 := tri_step (N := w.heap.size + 1 + 1) hB1 hb2 (by simp)
           clear k1 k2 k3 k4 q0 q1 q2 q3))
      obtain ⟨k1, k2, k3, k4⟩ := duo_at hB2
      have K1 := Lib.hid k1
      have K2 := Lib.hid k2
      have K3 := Lib.hid k3
      have K4 := Lib.hid k4
      have HB2 := Lib.hid hB2
      clear k1 k2 k3 k4 hB0 hb0 hB1 hB2 hb1 hb2 HM16 HMV
      go_loopw [20] (fun s20 wr => ∃ (m : Nat) (z : AV), m ≤ p.length ∧ s20 = .int .i64 m ∧ walkL x.v (p.take m) = some z.v ∧ z.Lies wr w.heap.size (w.heap.size + 1 + 1) wr.heap.size ∧ z.w ≤ x.w ∧ wr.heap[w.heap.size]? = some (.cells #[.int .u8 z.k, .string z.t, .slice z.la z.l.length z.lc, .slice z.ka z.ks.length z.kc] 48 (0, 0)) ∧ wr.heap[w.heap.size + 1]? = some (.cells #[.int .u8 0, .string ⟨#[]⟩, .slice none 0 0, .slice none 0 0] 48 (0, 0)) ∧ Below w.heap.size w wr ∧ w.heap.size + 1 < wr.heap.size) (fun s20 _ => p.length - (intOf s20).toNat)
      case atStart => exact ⟨0, x, Nat.zero_le _, rfl, rfl, .old (HX.out.blw K4.out (Nat.le_refl _)), Nat.le_refl _, K1.out, K2.out, K4.out, K3.out⟩
      case round =>
        obtain ⟨m, z, hm, rfl, hwk, hzl, hzw, hbz1, hbz2, hbw, hsz⟩ := hrel
        have HWK := Lib.hid hwk
        have HZL := Lib.hid hzl
        have HB1 := Lib.hid hbz1
        have HB2' := Lib.hid hbz2
        have HBW := Lib.hid hbw
        have hzr := hzl.rd
        by_cases hlt : m < p.length
        · have hk : p[m]? = some p[m] := List.getElem?_eq_getElem hlt
          have hmem : p[m] ∈ p := List.getElem_mem hlt
          generalize p[m] = s at hk hmem
          have hms := HALL.out s hmem
          have ha0 : 0 ≤ s.a := by
            unfold mayS at hms
            split at hms
            · have := of_decide_eq_true hms; rw [this]; exact Int.le_refl _
            · split at hms
              · rw [Bool.and_eq_true] at hms; exact of_decide_eq_true hms.1
              · split at hms
                · have := of_decide_eq_true hms; rw [this]; exact Int.le_refl _
                · cases hms
          obtain ⟨b, off, hpa, -, -, gb, c0', c1', c2', c3'⟩ := HP.out.at_ hk
          have c0 := (hbw.cell (p := ⟨_, _, none⟩) gb).trans c0'
          have c1 := (hbw.cell (p := ⟨_, _, none⟩) gb).trans c1'
          have c2 := (hbw.cell (p := ⟨_, _, none⟩) gb).trans c2'
          have c3 := (hbw.cell (p := ⟨_, _, none⟩) gb).trans c3'
          have hbb : b < wr.heap.size := Nat.lt_of_lt_of_le gb hbw.size
          have hlt' : (m : Int) < (p.length : Int) := by omega
          have hm0 : (0 : Int) ≤ (m : Int) := by omega
          have hwm : IntKind.i64.wrap ((m : Int) + 1) = ((m + 1 : Nat) : Int) := by rw [IntWalk.i64_in _ (by omega)]; omega
          obtain ⟨q0, q1, q2, q3, -, -, -, -⟩ := vbox4 hbz1
          have l0 : w.heap.size < wr.heap.size := by omega
          have HK := Lib.hid hk
          have hba := fun o => (Below.refl wr.heap.size wr).alloc (Nat.le_refl _) o
          have HC := Lib.hid (pstep_c z s (wr.alloc (.cells #[.int .u8 s.k, .string s.t, .string s.i, .int .i64 s.a] 90)) (hzr.up (hba _)) (by omega) (HSH.out.below (below_via hbw (hba _))) ha0)
          subst hpa
          clear hwk hzl hzr hk hmem hms c0' c1' c2' c3' hbz1 hbz2 hbw
          cases hst : z.v.stp s with
          | none =>
            have HNO := Lib.hid (walk_stop HK.out HWK.out hst)
            have HC2 := Lib.hid (step_post_n hst HC.out)
            clear HC hst
            go_wp2_with (
              go_at_call 108; (with_reducible refine HC2.out.mono ?_); rintro e w1 ⟨rfl, hb1⟩
              have hb1' := (hba (.cells #[.int .u8 s.k, .string s.t, .string s.i, .int .i64 s.a] 90)).trans (hb1.mono (by simp))
              have hs1 := hb1'.size
              obtain ⟨q0, q1, q2, q3, y0, y1, y2, y3⟩ := vbox4 (blk_up hb1' HB1.out)
              obtain ⟨s0, s1, s2, s3, u0, u1, u2, u3⟩ := vbox4 (blk_up hb1' HB2'.out)
              have i1 : w.heap.size < w1.heap.size := by omega
              have i2 : w.heap.size + 1 < w1.heap.size := by omega)
            refine bodyPost_ret (v := .tuple #[.agg #[.int .u8 0, .string ⟨#[]⟩, .slice none 0 0, .slice none 0 0], .bool false]) (by simp [results, Tryz.results56, go_sem, s0, s1, s2, s3]) rfl (walk_no (HF.out.trans HNO.out) (below4 (below4 (below_via HBW.out hb1') (by omega)) (by omega)))
          | some u =>
            have HTK := Lib.hid (show walkL x.v (p.take (m + 1)) = some u by rw [walk_take HK.out, HWK.out]; exact hst)
            have huw := stp_w hst
            have HC2 := Lib.hid (step_post hst HC.out)
            clear HC hst
            go_wp2_with (
              go_at_call 108; (with_reducible refine HC2.out.mono ?_); rintro e w1 ⟨z', rfl, hzv, hzi, hb1⟩
              have hb1' := (hba (.cells #[.int .u8 s.k, .string s.t, .string s.i, .int .i64 s.a] 90)).trans (hb1.mono (by simp))
              have hs1 := hb1'.size
              obtain ⟨q0, q1, q2, q3, y0, y1, y2, y3⟩ := vbox4 (blk_up hb1' HB1.out)
              have i1 : w.heap.size < w1.heap.size := by omega)
            have hzl' : z'.Lies w1 w.heap.size (w.heap.size + 1 + 1) w1.heap.size := by
              rcases hzi with h | h
              · exact (HZL.out.kid h).kept hs1 (Nat.le_refl _) hs1 fun k _ hk => hb1'.block k hk
              · simp only [World.size_alloc] at h
                exact lies_of_in z' (h.widen (by omega) (Nat.le_refl _))
            refine ⟨⟨m + 1, z', by omega, by go_num, by rw [HTK.out, hzv], ?_, ?_, put4_box (blk_up hb1' HB1.out), (put4_old (by omega)).trans (blk_up hb1' HB2'.out), below4 (below_via HBW.out hb1') (Nat.le_refl _), by show _ < (put4 _ _ _ _ _ _ _).heap.size; rw [put4_size]; omega⟩, by simp [intOf]; omega⟩
            · show z'.Lies (put4 w1 w.heap.size 0 _ _ _ _) w.heap.size (w.heap.size + 1 + 1) (put4 w1 w.heap.size 0 _ _ _ _).heap.size
              exact hzl'.kept (Nat.le_of_eq put4_size.symm) (Nat.le_refl _) (Nat.le_of_eq put4_size.symm) fun k hk _ => put4_old (by omega)
            · have e1 : z'.w = u.w := by show z'.v.w = _; rw [hzv]
              have e2 : z.w = z.v.w := rfl
              omega
        · obtain rfl : m = p.length := by omega
          have hge : ¬ (p.length : Int) < (p.length : Int) := by omega
          have hwf : walkV x.v p = some z.v := by rw [HF.out]; have h := HWK.out; rwa [List.take_length] at h
          have HWF := Lib.hid hwf
          have HO := Lib.hid (pown2_c z wr hzr (by omega))
          obtain ⟨q0, q1, q2, q3, -, -, -, -⟩ := vbox4 hbz1
          have l0 : w.heap.size < wr.heap.size := by omega
          clear hwk hzl hzr hbz1 hbz2 hbw hwf
          go_wp2_with (
            go_at_call 109; refine HO.out.mono ?_; rintro e w1 ⟨y, rfl, hyv, hyi, hym, hb1⟩
            have hs1 := hb1.size
            obtain ⟨s0, s1, s2, s3, u0, u1, u2, u3⟩ := vbox4 (blk_up hb1 HB2'.out)
            have i2 : w.heap.size + 1 < w1.heap.size := by omega)
          refine bodyPost_ret (v := .tuple #[.agg #[.int .u8 y.k, .string y.t, .slice y.la y.l.length y.lc, .slice y.ka y.ks.length y.kc], .bool true]) (by simp [results, Tryz.results56, go_sem, s0, s1, s2, s3]) rfl ⟨y, by rw [HWF.out]; rfl, (fun u hu => by rw [HWF.out] at hu; cases hu; exact hyv), (fun hn => by rw [HWF.out] at hn; cases hn), ?_, below4 (below_via HBW.out hb1) (by omega), ?_⟩
          · exact (hyi.kept (Nat.le_of_eq put4_size.symm) fun q h1 _ _ => put4_old (by omega)).widen (by omega) (Nat.le_of_eq put4_size.symm)
          · exact (hym.kept fun q h1 _ => put4_old (by omega)).widen (by omega) (Nat.le_of_eq put4_size.symm)
theorem walkL_may {v : Val} : ∀ {p : List St} {u : Val}, v.may = true → walkL v p = some u → u.may = true := by
  intro p
  induction p generalizing v with
  | nil => intro u hm h; cases h; exact hm
  | cons s l ih =>
    intro u hm h
    simp only [walkL] at h
    cases hs : v.stp s with
    | none => rw [hs] at h; cases h
    | some y => rw [hs] at h; exact ih (stp_may hm hs) h
theorem walkL_w {v : Val} : ∀ {p : List St} {u : Val}, walkL v p = some u → u.w ≤ v.w := by
  intro p
  induction p generalizing v with
  | nil => intro u h; cases h; exact Nat.le_refl _
  | cons s l ih =>
    intro u h
    simp only [walkL] at h
    cases hs : v.stp s with
    | none => rw [hs] at h; cases h
    | some y => rw [hs] at h; exact Nat.le_trans (ih h) (Nat.le_of_lt (stp_w hs))
theorem walkV_w {v u : Val} {p : List St} (h : walkV v p = some u) : u.w ≤ v.w := by
  unfold walkV at h
  split at h
  · exact walkL_w h
  · cases h
end Go.Proofs.YtcpdogjcofkpcaaGreatDoor
