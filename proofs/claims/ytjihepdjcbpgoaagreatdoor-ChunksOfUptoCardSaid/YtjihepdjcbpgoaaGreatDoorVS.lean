/-
  values.own: a value in new memory. Conditions: the tree lies in memory, its weight is bounded.
  values.own: a value in new memory. Conditions: the tree lies in memory, its weight is bounded.
-/
import Derived.Test.YtjihepdjcbpgoaaGreatDoorVN
namespace Go.Proofs.YtjihepdjcbpgoaaGreatDoor
open Go.RowKit Go.Sort

/-- A row of values at the head of a block. -/
def RowV (w : World) (B : Nat) (l : List AV) : Prop := w.heap[B]? = some (.cells (l.flatMap AV.enc).toArray 26 (0, 0))
theorem flat_set (l : List AV) (m : Nat) (z : AV) (hm : m < l.length) : (((((l.flatMap AV.enc).set (m * 4) (.int .u8 z.k)).set (m * 4 + 1) (.string z.t)).set (m * 4 + 2) (.slice z.la z.l.length z.lc)).set (m * 4 + 3) (.slice z.ka z.ks.length z.kc)) = (l.set m z).flatMap AV.enc := by
  induction l generalizing m with
  | nil => simp at hm
  | cons y l ih =>
    have e : ∀ (a : AV) (r : List AV), (a :: r).flatMap AV.enc = .int .u8 a.k :: .string a.t :: .slice a.la a.l.length a.lc :: .slice a.ka a.ks.length a.kc :: r.flatMap AV.enc := fun a r => rfl
    cases m with
    | zero => rw [List.set_cons_zero, e, e]; rfl
    | succ m =>
      have := ih m (by simpa using hm)
      have e2 : (y :: l).set (m + 1) z = y :: l.set m z := rfl
      rw [e2, e, e, ← this, show (m + 1) * 4 = m * 4 + 1 + 1 + 1 + 1 from by omega]
      simp only [List.set_cons_succ]
theorem RowV.put {w : World} {B m : Nat} {l : List AV} (h : RowV w B l) (hm : m < l.length) (z : AV) :
    RowV (put4 w B (m * 4) (.int .u8 z.k) (.string z.t) (.slice z.la z.l.length z.lc) (.slice z.ka z.ks.length z.kc)) B (l.set m z) := by
  unfold put4 RowV
  rw [set_blk (set_blk (set_blk (set_blk h _ _) _ _) _ _) _ _, ← flat_set l m z hm]
  simp
theorem RowV.sl {w : World} {B : Nat} {l : List AV} (h : RowV w B l) : SlE AV.enc 4 w B (B + 1) (some ⟨B, 0, none⟩) l := lit_sl AV.enc_len h
theorem RowV.below {w w' : World} {B : Nat} {l : List AV} (h : RowV w B l) (hb : Below w.heap.size w w') : RowV w' B l := by
  refine (hb.block B ?_).trans h
  rcases Nat.lt_or_ge B w.heap.size with h1 | h1
  · exact h1
  · unfold RowV at h; rw [Array.getElem?_eq_none h1] at h; cases h
theorem RowV.cell {w : World} {B : Nat} {l : List AV} (h : RowV w B l) {m : Nat} (hm : m < l.length) {j : Nat} (hj : j < 4) : (∃ u, w.cell? ⟨B, m * 4 + j, none⟩ = some u) ∧ w.frozen? ⟨B, m * 4 + j, none⟩ = false := by
  have hl := flat_len (l := l) AV.enc_len
  unfold RowV at h
  constructor
  · simp only [World.cell?, h]
    exact ⟨(l.flatMap AV.enc)[m * 4 + j]'(by omega), by simp⟩
  · simp [World.frozen?, h]

def zAV : AV := ⟨0, ⟨#[]⟩, none, 0, [], none, 0, []⟩
def zc : List Value := [.int .u8 0, .string ⟨#[]⟩, .slice none 0 0, .slice none 0 0]
theorem zAV_enc : zAV.enc = zc := rfl
theorem zget : ∀ (n j : Nat), j < n * 4 → ((List.replicate n zAV).flatMap AV.enc)[j]? = zc[j % 4]?
  | 0, j, h => by omega
  | n + 1, j, h => by
    rw [List.replicate_succ, List.flatMap_cons, zAV_enc]
    rcases Nat.lt_or_ge j 4 with h4 | h4
    · rw [List.getElem?_append_left (by simpa [zc] using h4), Nat.mod_eq_of_lt h4]
    · rw [List.getElem?_append_right (by simpa [zc] using h4)]
      have := zget n (j - 4) (by omega)
      rw [show (zc.length) = 4 from rfl, this]
      congr 1
      omega
theorem zcells (n : Nat) : madeCells (Value.agg #[.int .u8 0, .string ⟨#[]⟩, .slice none 0 0, .slice none 0 0]).cells (n * 4) = ((List.replicate n zAV).flatMap AV.enc).toArray := by
  have hc : (Value.agg #[.int .u8 0, .string ⟨#[]⟩, .slice none 0 0, .slice none 0 0]).cells = #[.int .u8 0, .string ⟨#[]⟩, .slice none 0 0, .slice none 0 0] := by rfl
  rw [hc]
  have hl : ((List.replicate n zAV).flatMap AV.enc).length = n * 4 := by
    induction n with
    | zero => rfl
    | succ n ih => rw [List.replicate_succ, List.flatMap_cons, List.length_append, ih, show zAV.enc.length = 4 from rfl]; omega
  apply Array.ext
  · simp only [madeCells, Array.size_map, Array.size_range, List.size_toArray, hl]
  · intro j h1 h2
    have hj : j < n * 4 := by simpa [madeCells] using h1
    have := zget n j hj
    rw [List.getElem?_eq_getElem (by omega)] at this
    simp only [madeCells, Array.getElem_map, Array.getElem_range, List.getElem_toArray]
    have h4 : j % 4 < 4 := Nat.mod_lt _ (by omega)
    have e : (#[Value.int .u8 0, .string ⟨#[]⟩, .slice none 0 0, .slice none 0 0] : Array Value)[j % 4]! = zc[j % 4]'h4 := by
      match j % 4, h4 with
      | 0, _ => rfl
      | 1, _ => rfl
      | 2, _ => rfl
      | 3, _ => rfl
    rw [show (#[Value.int .u8 0, .string ⟨#[]⟩, .slice none 0 0, .slice none 0 0] : Array Value).size = 4 from rfl, e]
    rw [List.getElem?_eq_getElem h4] at this
    injection this with this
    exact this.symm

/-- slices.Clone at texts. -/
theorem clone_c (w : World) (A : Option Addr) (c : Nat) (ks : List ByteArray) (lo hi : Nat) (h : SlE strE 1 w lo hi A ks) (hn : ks.length ≤ 1048576) :
    Calls Tryz.prog 107 #[.slice A ks.length c] w fun e w' => ∃ A' c', e = .returned (.slice A' ks.length c') ∧ ks.length ≤ c' ∧ SlE strE 1 w' w.heap.size w'.heap.size A' ks ∧ Below w.heap.size w w' := by
  have fin : ∀ v' w', w'.ownsRow w.heap.size 9 1 v' ks.length (ks.map Value.string) → Below w.heap.size w w' → ∃ A' c', Ending.returned v' = .returned (.slice A' ks.length c') ∧ ks.length ≤ c' ∧ SlE strE 1 w' w.heap.size w'.heap.size A' ks ∧ Below w.heap.size w w' := fun v' w' ho hb => by
    have hmap : ∀ l : List ByteArray, l.map Value.string = l.flatMap strE := fun l => by induction l <;> simp_all
    rw [hmap ks] at ho
    obtain ⟨a', c', rfl⟩ : ∃ a' c', v' = .slice a' ks.length c' := by
      rcases ho.2 with ⟨e, h0⟩ | ⟨g, cap, cur, e, _⟩
      · exact ⟨none, 0, by rw [e, h0]⟩
      · exact ⟨_, _, e⟩
    exact ⟨a', c', rfl, own_cap ho rfl, own_sl (enc := strE) (size := 1) (fun _ => rfl) ho, hb⟩
  cases A with
  | none =>
    have := h.none_nil rfl
    subst this
    refine (Tryz.slices_Clone_string_nil 0 c w).mono ?_
    rintro e w' ⟨rfl, rfl⟩
    exact ⟨none, 0, rfl, Nat.le_refl _, SlE.nil, Below.refl _ _⟩
  | some a =>
    rcases Nat.eq_zero_or_pos ks.length with h0 | h0
    · have := List.eq_nil_of_length_eq_zero h0
      subst this
      refine (Tryz.slices_Clone_string_zero a c w).mono ?_
      rintro e w' ⟨v', rfl, ho, -, hb⟩
      exact fin v' w' ho hb
    · obtain ⟨b, off, e, h1, h2, h3, h4⟩ := h h0
      injection e with e
      subst e
      refine (Tryz.slices_Clone_string b off ks.length c ks w (Nat.le_refl _) (by omega) (fun j hj => ?_)).mono ?_
      · have := h4 j ks[j] (List.getElem?_eq_getElem hj) 0 (.string ks[j]) rfl
        rw [Nat.mul_one, Nat.add_zero] at this
        rw [List.getD_eq_getElem?_getD, List.getElem?_eq_getElem hj]
        exact this
      · rintro e w' ⟨v', rfl, ho, -, hb⟩
        rw [List.take_length] at ho
        exact fin v' w' ho hb
/-- slices.Clip at texts. -/
theorem clip_c (w : World) (a : Option Addr) (cap n : Nat) (hn : n ≤ cap) :
    Calls Tryz.prog 106 #[.slice a n cap] w fun e w' => e = .returned (.slice a n n) ∧ w = w' := by
  go_enter Tryz.func106, Tryz.ntmps106
  go_wp2_with fail
  go_ret
  exact ⟨rfl, rfl⟩

def OwnPost (v : Val) (w : World) (e : Ending) (w' : World) : Prop := ∃ y : AV, e = .returned y.val ∧ y.v = v ∧ y.In w' w.heap.size w'.heap.size ∧ Below w.heap.size w w'
end Go.Proofs.YtjihepdjcbpgoaaGreatDoor

namespace Go.Proofs.YtjihepdjcbpgoaaGreatDoor
open Go.RowKit Go.Sort

set_option maxRecDepth 100000 in
set_option maxHeartbeats 3200000 in
theorem own_c : ∀ (x : AV) (w : World), Rd w x → x.w ≤ 1048576 → Calls Tryz.prog 61 #[x.val] w (OwnPost x.v w) := AV.ind fun x ih w hx hw => by
  have hll := x.w_l
  have hlk := x.w_ks
  have hkd := hx.kind
  have hlb : x.l.length ≤ 1048576 := by omega
  have hlkb : x.ks.length ≤ 1048576 := by omega
  obtain ⟨i0, hi, hz0, hz1, hz2⟩ := info_parts info_val
  have hmk := fun W => run_make (P := Tryz.prog) W 23 26 i0 _ Tryz.underlying23 hi hz0 .i64 .i64 x.l.length x.l.length (by omega) (Int.le_refl _) (by rw [hz2]; omega) (by omega)
  rw [hz1, Int.toNat_natCast] at hmk
  rw [zcells] at hmk
  obtain ⟨mc, hmc⟩ : ∃ mc, mc = ((List.replicate x.l.length zAV).flatMap AV.enc).toArray := ⟨_, rfl⟩
  rw [← hmc] at hmk
  clear hi hz0 hz1 hz2
  have HMC := Lib.hid hmc
  clear hmc
  have HX := Lib.hid hx
  have HI := fun (y : AV) (hy : y ∈ x.l) (W : World) (hb : Below w.heap.size w W) => Lib.hid (ih y hy W (hx.kid_at hb hy) (Nat.le_trans (Nat.le_of_lt (AV.w_kid hy)) hw))
  have HC := fun W (hb : Below w.heap.size w W) => Lib.hid (clone_c W x.ka x.kc x.ks 0 W.heap.size (hx.keys.up hb) hlkb)
  have HL := fun W a c h => Lib.hid (clip_c W a c x.ks.length h)
  clear ih hx
  go_enter Tryz.func61, Tryz.ntmps61
  go_upto_region 2 with (first
    | (go_at_call 107; refine (HC _ (by repeat (first | exact Below.refl _ _ | refine Below.drew ?_ | refine below_drewN ?_ _ | refine Below.alloc ?_ (by first | omega | (simp; done) | (simp; omega)) _))).out.mono ?_; rintro e w1 ⟨A', c', rfl, hc', hsl, hb⟩
       have hs1 := hb.size
       try simp only [World.size_alloc] at hs1
       have hbx := (hb.block w.heap.size (by simp; omega)).trans ((heap_alloc_old _ _ _ (by simp)).trans (heap_alloc_new w (.cells #[.int .u8 x.k, .string x.t, .slice x.la x.l.length x.lc, .slice x.ka x.ks.length x.kc] 26)))
       obtain ⟨q0, q1, q2, q3, y0, y1, y2, y3⟩ := vbox4 hbx)
    | (go_at_call 106; refine (HL _ _ _ hc').out.mono ?_; rintro e w2 ⟨rfl, rfl⟩))
  go_name_world W1 hW1
  have hsz1 : W1.heap.size = w1.heap.size := by rw [← hW1]; simp
  have hsl1 : SlE strE 1 W1 (w.heap.size + 1 + 1) w1.heap.size A' x.ks := by
    have h := hsl
    simp only [World.size_alloc] at h
    rw [← hW1]
    exact h.keep (by simp) fun q h1 _ _ => Below.heap_setCell w1 _ _ q (by show q ≠ w.heap.size; omega)
  have hbx1 : W1.heap[w.heap.size]? = some (.cells #[.int .u8 x.k, .string x.t, .slice x.la x.l.length x.lc, .slice A' x.ks.length x.ks.length] 26 (0, 0)) := by
    rw [← hW1, set_blk hbx]; rfl
  have hrb1 : W1.heap[w.heap.size + 1]? = some (.cells #[.int .u8 0, .string ⟨#[]⟩, .slice none 0 0, .slice none 0 0] 26 (0, 0)) := by
    rw [← hW1]
    refine (Below.heap_setCell w1 _ _ (w.heap.size + 1) (by show w.heap.size + 1 ≠ w.heap.size; omega)).trans ((hb.block (w.heap.size + 1) (by simp)).trans ?_)
    have := heap_alloc_new (w.alloc (.cells #[.int .u8 x.k, .string x.t, .slice x.la x.l.length x.lc, .slice x.ka x.ks.length x.kc] 26)) (.cells #[.int .u8 0, .string ⟨#[]⟩, .slice none 0 0, .slice none 0 0] 26)
    rwa [World.size_alloc] at this
  have hbw1 : Below w.heap.size w W1 := by
    rw [← hW1]
    refine Below.setCell (p := ⟨w.heap.size, 3, none⟩) ?_ (Nat.le_refl _) _
    exact (((Below.refl _ _).alloc (Nat.le_refl _) _).alloc (by simp) _).trans (hb.mono (by simp; omega))
  have hrow0 : RowV (W1.alloc (.cells mc 26)) W1.heap.size (List.replicate x.l.length zAV) := by
    rw [RowV, heap_alloc_new, HMC.out]
  rw [← hsz1] at hsl1
  have hs2 : w.heap.size + 1 + 1 ≤ W1.heap.size := by omega
  clear hsl hb hbx q0 q1 q2 q3 y0 y1 y2 y3 HC HL HMC hc' hs1
  clear hW1 hsz1
  obtain ⟨q0, q1, q2, q3, y0, y1, y2, y3⟩ := vbox4 hbx1
  have hl1 : w.heap.size < W1.heap.size := by omega
  have HR0 := Lib.hid hrow0
  have HS1 := Lib.hid hsl1
  have HB1 := Lib.hid hbx1
  have HRB := Lib.hid hrb1
  have HBW := Lib.hid hbw1
  clear hsl1 hbx1 hrb1 hbw1 hrow0
  go_wp2_with fail
  clear hmk q0 q1 q2 q3 y0 y1 y2 y3
  go_loopw [4, 5, 18] (fun _ _ i wr => ∃ (m : Nat) (ys : List AV), m ≤ x.l.length ∧ i = .int .i64 m ∧ ys.length = m ∧ ys.map AV.v = (x.l.map AV.v).take m ∧ RowV wr W1.heap.size (ys ++ List.replicate (x.l.length - m) zAV) ∧ (∀ y ∈ ys, y.In wr (W1.heap.size + 1) wr.heap.size) ∧ Below W1.heap.size W1 wr ∧ W1.heap.size < wr.heap.size) (fun _ _ i _ => x.l.length - (intOf i).toNat)
  case atStart => exact ⟨0, [], Nat.zero_le _, rfl, rfl, rfl, HR0.out, fun y hy => absurd hy List.not_mem_nil, (Below.refl _ _).alloc (Nat.le_refl _) _, by rw [World.size_alloc]; omega⟩
  case round =>
    obtain ⟨m, ys, hml, rfl, hyl, hyv, hrow, hyi, hbr, hsr⟩ := hrel
    have hwr : Below w.heap.size w wr := HBW.out.trans (hbr.mono (by omega))
    obtain ⟨q0, q1, q2, q3, u0, u1, u2, u3⟩ := vbox4 ((hbr.block w.heap.size (by omega)).trans HB1.out)
    obtain ⟨s0, s1, s2, s3, y0, y1, y2, y3⟩ := vbox4 ((hbr.block (w.heap.size + 1) (by omega)).trans HRB.out)
    have HYL := Lib.hid hyl
    have HYV := Lib.hid hyv
    have HYI := Lib.hid hyi
    have HROW := Lib.hid hrow
    have HBR := Lib.hid hbr
    have HWR := Lib.hid hwr
    clear hyl hyv hyi hrow hbr hwr HR0
    by_cases hlt : m < x.l.length
    · have hk : x.l[m]? = some x.l[m] := List.getElem?_eq_getElem hlt
      have hmem : x.l[m] ∈ x.l := List.getElem_mem hlt
      generalize x.l[m] = y at *
      obtain ⟨b, off, hla, -, hb1, hb2, h0, h1, h2, h3⟩ := vals_at HX.out.sl hk
      rw [← HWR.out.cell (p := ⟨_, _, none⟩) hb2] at h0 h1 h2 h3
      have hbb : b < wr.heap.size := Nat.lt_of_lt_of_le hb2 HWR.out.size
      have hlt' : (m : Int) < (x.l.length : Int) := by omega
      have HC := fun W h => HI y hmem W h
      rw [hla] at q2
      have hix := Nat.lt_of_lt_of_le hlt (Nat.le_refl x.l.length)
      have HK := Lib.hid hk
      rw [hla]
      clear hk hmem HI s0 s1 s2 s3
      go_wp2_with fail
      have hba := (Below.refl wr.heap.size wr).alloc (Nat.le_refl _) (.cells #[.int .u8 y.k, .string y.t, .slice y.la y.l.length y.lc, .slice y.ka y.ks.length y.kc] 26)
      refine (HC _ (HWR.out.trans (hba.mono HWR.out.size))).out.mono ?_
      rintro e w2 ⟨z, rfl, hzv, hzi, hb2'⟩
      have hbz : Below wr.heap.size wr w2 := hba.trans (hb2'.mono (by simp))
      have hrz := HROW.out.below hbz
      have hrl : (ys ++ List.replicate (x.l.length - m) zAV).length = x.l.length := by rw [List.length_append, List.length_replicate, HYL.out]; omega
      have hsz := hbz.size
      obtain ⟨⟨v0, c0⟩, f0⟩ := hrz.cell (m := m) (by omega) (j := 0) (by omega)
      obtain ⟨⟨v1, c1⟩, f1⟩ := hrz.cell (m := m) (by omega) (j := 1) (by omega)
      obtain ⟨⟨v2, c2⟩, f2⟩ := hrz.cell (m := m) (by omega) (j := 2) (by omega)
      obtain ⟨⟨v3, c3⟩, f3⟩ := hrz.cell (m := m) (by omega) (j := 3) (by omega)
      rw [Nat.add_zero] at c0 f0
      have HZI := Lib.hid hzi
      have HZV := Lib.hid hzv
      have HBZ := Lib.hid hbz
      have HRZ := Lib.hid hrz
      have HRL := Lib.hid hrl
      have hsr2 : W1.heap.size < w2.heap.size := by omega
      clear hzi hzv hbz hrz hrl hba hb2' HC
      go_wp2_with fail
      have hput := HRZ.out.put (m := m) (by rw [HRL.out]; exact hlt) z
      have hset : (ys ++ List.replicate (x.l.length - m) zAV).set m z = (ys ++ [z]) ++ List.replicate (x.l.length - (m + 1)) zAV := by
        rw [List.set_append, if_neg (by rw [HYL.out]; omega), HYL.out, Nat.sub_self, List.append_assoc, show x.l.length - m = x.l.length - (m + 1) + 1 by omega, List.replicate_succ]
        rfl
      rw [hset] at hput
      have hbp : Below W1.heap.size W1 (put4 w2 W1.heap.size (m * 4) (.int .u8 z.k) (.string z.t) (.slice z.la z.l.length z.lc) (.slice z.ka z.ks.length z.kc)) :=
        ((((HBR.out.trans (HBZ.out.mono (by omega))).setCell (p := ⟨W1.heap.size, m * 4, none⟩) (Nat.le_refl _) _).setCell (p := ⟨W1.heap.size, m * 4 + 1, none⟩) (Nat.le_refl _) _).setCell (p := ⟨W1.heap.size, m * 4 + 2, none⟩) (Nat.le_refl _) _).setCell (p := ⟨W1.heap.size, m * 4 + 3, none⟩) (Nat.le_refl _) _
      refine ⟨⟨m + 1, ys ++ [z], by omega, by go_num, by simp [HYL.out], ?_, hput, ?_, hbp, by show W1.heap.size < (put4 _ _ _ _ _ _ _).heap.size; rw [put4_size]; omega⟩, by simp [intOf]; omega⟩
      · rw [List.map_append, HYV.out, List.take_add_one, List.getElem?_map, HK.out, List.map_singleton, HZV.out]; rfl
      · intro u hu
        have key : ∀ {lo hi : Nat}, W1.heap.size + 1 ≤ lo → hi ≤ w2.heap.size → u.In w2 lo hi → u.In (put4 w2 W1.heap.size (m * 4) (.int .u8 z.k) (.string z.t) (.slice z.la z.l.length z.lc) (.slice z.ka z.ks.length z.kc)) (W1.heap.size + 1) (put4 w2 W1.heap.size (m * 4) (.int .u8 z.k) (.string z.t) (.slice z.la z.l.length z.lc) (.slice z.ka z.ks.length z.kc)).heap.size := fun h1 h2 h =>
          (h.kept (Nat.le_of_eq put4_size.symm) fun q hq _ _ => put4_old (by omega)).widen h1 (by rw [put4_size]; exact h2)
        rcases List.mem_append.1 hu with hu | hu
        · exact key (Nat.le_refl _) hsz ((HYI.out u hu).blw' HBZ.out)
        · simp at hu; subst hu
          exact key (by rw [World.size_alloc]; omega) (Nat.le_refl _) HZI.out
    · obtain rfl : m = x.l.length := by omega
      have hge : ¬ (x.l.length : Int) < (x.l.length : Int) := by omega
      have hle : w.heap.size < wr.heap.size := by have := HBR.out.size; omega
      have hrow := HROW.out
      rw [Nat.sub_self, List.replicate_zero, List.append_nil] at hrow
      have hys : ys.map AV.v = x.l.map AV.v := by rw [HYV.out]; exact List.take_of_length_le (by simp)
      have HRW := Lib.hid hrow
      have HYS := Lib.hid hys
      have hsz := HBR.out.size
      clear hrow hys HI
      go_wp2_with fail
      have hq : ∀ q, W1.heap.size ≤ q ∨ w.heap.size + 1 + 1 ≤ q → (set4 (wr.setCell ⟨w.heap.size, 2, none⟩ (.slice (some ⟨W1.heap.size, 0, none⟩) x.l.length x.l.length)) (w.heap.size + 1) (.int .u8 x.k) (.string x.t) (.slice (some ⟨W1.heap.size, 0, none⟩) x.l.length x.l.length) (.slice A' x.ks.length x.ks.length)).heap[q]? = wr.heap[q]? := fun q hq => by
        rw [old4 (by omega)]
        exact Below.heap_setCell wr _ _ q (by show q ≠ w.heap.size; omega)
      have hqs : (set4 (wr.setCell ⟨w.heap.size, 2, none⟩ (.slice (some ⟨W1.heap.size, 0, none⟩) x.l.length x.l.length)) (w.heap.size + 1) (.int .u8 x.k) (.string x.t) (.slice (some ⟨W1.heap.size, 0, none⟩) x.l.length x.l.length) (.slice A' x.ks.length x.ks.length)).heap.size = wr.heap.size := by rw [size4]; simp
      have hin : AV.In (set4 (wr.setCell ⟨w.heap.size, 2, none⟩ (.slice (some ⟨W1.heap.size, 0, none⟩) x.l.length x.l.length)) (w.heap.size + 1) (.int .u8 x.k) (.string x.t) (.slice (some ⟨W1.heap.size, 0, none⟩) x.l.length x.l.length) (.slice A' x.ks.length x.ks.length)) w.heap.size (set4 (wr.setCell ⟨w.heap.size, 2, none⟩ (.slice (some ⟨W1.heap.size, 0, none⟩) x.l.length x.l.length)) (w.heap.size + 1) (.int .u8 x.k) (.string x.t) (.slice (some ⟨W1.heap.size, 0, none⟩) x.l.length x.l.length) (.slice A' x.ks.length x.ks.length)).heap.size ⟨x.k, x.t, some ⟨W1.heap.size, 0, none⟩, x.l.length, ys, A', x.ks.length, x.ks⟩ := by
        have e1 := HRW.out.sl.keep (w' := (set4 (wr.setCell ⟨w.heap.size, 2, none⟩ (.slice (some ⟨W1.heap.size, 0, none⟩) x.l.length x.l.length)) (w.heap.size + 1) (.int .u8 x.k) (.string x.t) (.slice (some ⟨W1.heap.size, 0, none⟩) x.l.length x.l.length) (.slice A' x.ks.length x.ks.length))) (Nat.le_of_eq hqs.symm) fun q h1 _ _ => hq q (.inl h1)
        have e2 := (HS1.out.below HBR.out (Nat.le_refl _)).keep (w' := (set4 (wr.setCell ⟨w.heap.size, 2, none⟩ (.slice (some ⟨W1.heap.size, 0, none⟩) x.l.length x.l.length)) (w.heap.size + 1) (.int .u8 x.k) (.string x.t) (.slice (some ⟨W1.heap.size, 0, none⟩) x.l.length x.l.length) (.slice A' x.ks.length x.ks.length))) (Nat.le_of_eq hqs.symm) fun q h1 _ _ => hq q (.inr h1)
        have e3 := fun u hu => (HYI.out u hu).kept (w' := (set4 (wr.setCell ⟨w.heap.size, 2, none⟩ (.slice (some ⟨W1.heap.size, 0, none⟩) x.l.length x.l.length)) (w.heap.size + 1) (.int .u8 x.k) (.string x.t) (.slice (some ⟨W1.heap.size, 0, none⟩) x.l.length x.l.length) (.slice A' x.ks.length x.ks.length))) (Nat.le_of_eq hqs.symm) fun q h1 _ _ => hq q (.inl (by omega))
        rw [hqs]
        exact ⟨e1.widen (by omega) (by omega), e2.widen (by omega) (by omega), hkd, fun u hu => (e3 u hu).widen (by omega) (Nat.le_refl _)⟩
      refine bodyPost_ret (v := .agg #[.int .u8 x.k, .string x.t, .slice (some ⟨W1.heap.size, 0, none⟩) x.l.length x.l.length, .slice A' x.ks.length x.ks.length]) (by simp [results, Tryz.results61, go_sem, s0, s1, s2, s3]) rfl ⟨⟨x.k, x.t, some ⟨W1.heap.size, 0, none⟩, x.l.length, ys, A', x.ks.length, x.ks⟩, ?_, ?_, ?_, ?_⟩
      · show _ = Ending.returned (.agg #[.int .u8 x.k, .string x.t, .slice (some ⟨W1.heap.size, 0, none⟩) ys.length x.l.length, .slice A' x.ks.length x.ks.length])
        rw [HYL.out]
      · rw [AV.v_eq, AV.v_eq x, HYS.out]
      · exact hin
      · show Below _ _ (set4 (wr.setCell ⟨w.heap.size, 2, none⟩ _) (w.heap.size + 1) _ _ _ _)
        exact below4 (HWR.out.setCell (p := ⟨w.heap.size, 2, none⟩) (Nat.le_refl _) _) (by omega)
end Go.Proofs.YtjihepdjcbpgoaaGreatDoor
