/-
  The walk of inarchlaw16.PathsOrder: it answers true, and nothing that was there turns. Conditions: the arguments read as data with bounded lengths; strconv's table of powers holds what its initialiser lays.
-/
import Derived.Test.YtdapimjhjnbfdaaDoorP10
namespace Go.Proofs.YtdapimjhjnbfdaaDoor
open Go.RowKit

theorem cells_of_own {w : World} {b e base : Nat} {n cap : Nat} {l : List St} (h : OwnC w base e 4 (some ⟨b, 0, none⟩) n cap (l.flatMap St.enc)) (hc : 0 < cap) (hn : n = l.length) : Sts w 0 w.heap.size (some ⟨b, 0, none⟩) l := fun hl => by
  obtain ⟨g, cur, e1, hb, hh, h3, h4⟩ := h.2.2 hc
  injection e1 with e1; injection e1 with e1 _ _
  subst e1; subst hn
  have hlt : b < w.heap.size := by
    rcases Nat.lt_or_ge b w.heap.size with h' | h'
    · exact h'
    · rw [Array.getElem?_eq_none h'] at hh; cases hh
  refine ⟨b, 0, rfl, Nat.zero_le _, hlt, hlt, fun i x hx j u hu => ?_⟩
  have hj : j < 4 := by rw [← St.enc_len x]; exact (List.getElem?_eq_some_iff.1 hu).1
  have hi : i < l.length := (List.getElem?_eq_some_iff.1 hx).1
  have e2 : w.cell? ⟨b, 0 + i * 4 + j, none⟩ = (l.flatMap St.enc)[i * 4 + j]? := by
    rw [← h4, List.getElem?_take, if_pos (by omega)]
    simp [World.cell?, hh]
  rw [e2, flat_get St.enc_len l i j x hx hj, hu]

set_option maxRecDepth 100000 in
set_option maxHeartbeats 4000000 in
theorem pathsOrder (w : World) (a b : Option Addr) (ca cb : Nat) (l m : List St) (s : St) (ha : Sts w 0 w.heap.size a l) (hb : Sts w 0 w.heap.size b m) (fl : Fit2 l) (fm : Fit2 m) (hca : l.length ≤ ca) (hp : Pow w) :
    Calls Tryd.prog 3 #[.slice a l.length ca, .slice b m.length cb, s.val] w (Ret (.bool true) w) := by
  have hl1 := fl.1.1
  have hm1 := fm.1.1
  go_enter Tryd.func3, Tryd.ntmps3
  have hb0 : Below w.heap.size w (w.alloc (.cells #[.int .u8 s.k, .string s.t, .string s.i, .int .i64 s.a] 25)) := (Below.refl _ _).alloc (Nat.le_refl _) _
  go_wp2_with fail
  refine (great16 _ _ _ _ (ha.up hb0) fl.1).mono ?_
  rintro e w1 ⟨r1, rfl, hb1⟩
  have hb1' := below_via (w := w) hb0 hb1
  cases r1
  · go_wp2_with fail
    refine (great16 _ _ _ _ (hb.up hb1') fm.1).mono ?_
    rintro e w2 ⟨r2, rfl, hb2⟩
    have hb2' := hb1'.trans (hb2.mono hb1'.size)
    cases r2
    · go_wp2_with fail
      refine (twin16 _ _ _ _ (ha.up hb2') hl1).mono ?_
      rintro e w3 ⟨gx, capx, rfl, hgx, hcx, hox, hb3⟩
      have hb3' := hb2'.trans (hb3.mono hb2'.size)
      go_wp2_with fail
      refine (twin16 _ _ _ _ (hb.up hb3') hm1).mono ?_
      rintro e w4 ⟨gy, capy, rfl, hgy, hcy, hoy, hb4⟩
      have hb4' := hb3'.trans (hb4.mono hb3'.size)
      have hx2 := hb1.trans (hb2.mono hb1.size)
      have hx3 := hx2.trans (hb3.mono hx2.size)
      have hx4 := hx3.trans (hb4.mono hx3.size)
      have sx : Sts w3 0 w3.heap.size (some ⟨gx, 0, none⟩) l := by have := ((own_sl St.enc_len hox).widen (Nat.zero_le _) (Nat.le_refl _)).take l.length; rwa [List.take_left'] at this; rfl
      have sy : Sts w4 0 w4.heap.size (some ⟨gy, 0, none⟩) m := by have := ((own_sl St.enc_len hoy).widen (Nat.zero_le _) (Nat.le_refl _)).take m.length; rwa [List.take_left'] at this; rfl
      by_cases hlm : m.length ≤ l.length
      · have hge : decide ((m.length : Int) ≤ (l.length : Int)) = true := by simp; omega
        have hmin : min (l.length : Int) (m.length : Int) = (m.length : Int) := by omega
        have hlen : (l.take m.length).length = m.length := by simp; omega
        have HS := Lib.hid (by have := same16 w4 a b ca cb (l.take m.length) m ((ha.up hb4').take _) (hb.up hb4') (by omega) (by omega); rwa [hlen] at this : Calls Tryd.prog 13 #[.slice a m.length ca, .slice b m.length cb] w4 (Ret (.bool (decide (l.take m.length = m))) w4))
        clear hlen
        go_wp2_with fail
        refine HS.out.mono ?_
        rintro e w5 ⟨rfl, hb5⟩
        clear hmin hge HS
        have hx5 : Below (w.alloc (.cells #[.int .u8 s.k, .string s.t, .string s.i, .int .i64 s.a] 25)).heap.size (w.alloc (.cells #[.int .u8 s.k, .string s.t, .string s.i, .int .i64 s.a] 25)) w5 := hx4.trans (hb5.mono hx4.size)
        have hb5' : Below w.heap.size w w5 := hb4'.trans (hb5.mono hb4'.size)
        have hsx5 := hx5.size
        simp only [World.size_alloc] at hsx5
        have x0 := (hx5.cell (p := ⟨w.heap.size, 0, none⟩) (by simp)).trans (show _ = some (Value.int .u8 s.k) by go_simp)
        have x1 := (hx5.cell (p := ⟨w.heap.size, 1, none⟩) (by simp)).trans (show _ = some (Value.string s.t) by go_simp)
        have x2 := (hx5.cell (p := ⟨w.heap.size, 2, none⟩) (by simp)).trans (show _ = some (Value.string s.i) by go_simp)
        have x3 := (hx5.cell (p := ⟨w.heap.size, 3, none⟩) (by simp)).trans (show _ = some (Value.int .i64 s.a) by go_simp)
        have hk3 : Below w3.heap.size w3 w5 := hb4.trans (hb5.mono hb4.size)
        have hk4 : Below w4.heap.size w4 w5 := hb5
        have sx5 := sx.up hk3
        have sy5 := sy.up hk4
        have hto := Lib.hid (to16 w5 (some ⟨gx, 0, none⟩) capx l s sx5 hl1 (by omega))
        go_wp2_with fail
        refine hto.out.mono ?_
        rintro e w6 ⟨g, n, hn, rfl, hg, hoc, hb6⟩
        have hn' : n = l.length + 1 := by rw [hn]; simp
        clear hto hn
        subst hn'
        have hb6' := hb5'.trans (hb6.mono hb5'.size)
        have hs6 := hb6.size
        have st := cells_of_own (l := l ++ [s]) hoc (by simp) (by simp)
        obtain ⟨bg, og, eg, -, hg6, -, t0, t1, t2, t3⟩ := st.at_ (k := l.length) (s := s) (by simp)
        injection eg with eg; injection eg with eg1 eg2 _
        subst eg1; subst eg2
        simp only [Nat.zero_add] at t0 t1 t2 t3
        have y0 := (hb6.cell (p := ⟨w.heap.size, 0, none⟩) (by show w.heap.size < _; omega)).trans x0
        have y1 := (hb6.cell (p := ⟨w.heap.size, 1, none⟩) (by show w.heap.size < _; omega)).trans x1
        have y2 := (hb6.cell (p := ⟨w.heap.size, 2, none⟩) (by show w.heap.size < _; omega)).trans x2
        have y3 := (hb6.cell (p := ⟨w.heap.size, 3, none⟩) (by show w.heap.size < _; omega)).trans x3
        clear x0 x1 x2 x3
        have hwl : w.heap.size < w6.heap.size := by omega
        have stl : Sts w6 0 w6.heap.size (some ⟨g, 0, none⟩) l := by have := st.take l.length; rwa [List.take_left'] at this; rfl
        have sx6 := sx5.up hb6
        have sy6 := sy5.up hb6
        have sa6 := ha.up hb6'
        have sb6 := hb.up hb6'
        have C15 := fun W (h : Below w6.heap.size w6 W) => Lib.hid (cmp16 W (some ⟨gx, 0, none⟩) (some ⟨gy, 0, none⟩) capx capy l m (sx6.up h) (sy6.up h) hl1 hm1)
        have C16 := fun W (h : Below w6.heap.size w6 W) => Lib.hid (refcmp16 W a b ca cb l m (sa6.up h) (sb6.up h) hl1 hm1)
        have C17 := fun W (h : Below w6.heap.size w6 W) => Lib.hid (begins16 W (some ⟨gx, 0, none⟩) (some ⟨gy, 0, none⟩) capx capy l m (sx6.up h) (sy6.up h) hl1 (by omega))
        rw [show decide (m.length ≤ l.length ∧ List.take m.length l = m) = decide (List.take m.length l = m) by simp [hlm]] at C17
        have C13 := fun W (h : Below w6.heap.size w6 W) => Lib.hid (same16 W (some ⟨g, 0, none⟩) a (l.length + 1) ca l l (stl.up h) (sa6.up h) hl1 (by omega))
        simp only [decide_true] at C13
        have N6 := fun w => neq_step w s s
        simp only [decide_true, Bool.not_true] at N6
        have hgl : (l.length : Int) < (l.length : Int) + 1 := by omega
        have HA := ha
        have HB := hb
        clear sx5 sy5 sx6 sy6 sa6 sb6 stl st ha hb
        have hwr : IntKind.i64.wrap ((l.length : Int) + 1) = (l.length : Int) + 1 := IntWalk.i64_in _ (by omega)
        have hle1 : l.length ≤ l.length + 1 := by omega
        have hle2 : (l.length : Int) ≤ (l.length : Int) + 1 := by omega
        have q0 : ∀ b o, b < w6.heap.size → w6.drew.cell? ⟨b, o, none⟩ = w6.cell? ⟨b, o, none⟩ := fun _ _ _ => rfl
        have Q0 := Lib.hid q0
        clear q0
        go_wp2_with fail
        go_region_held3 (fun W => ∀ b o, b < w6.heap.size → W.cell? ⟨b, o, none⟩ = w6.cell? ⟨b, o, none⟩)
          (first | exact Q0.out | exact Q1.out | exact Q2.out | exact Q3.out | exact Q4.out)
          (first
            | (go_at_call 15; refine (C15 _ (Below.refl _ _).drew).out.mono ?_; rintro e w7 ⟨rfl, hb7'⟩
               have hb7 : Below w6.heap.size w6 w7 := below_of_drew hb7'
               have hz7 := hb7.size
               have Q1 := Lib.hid (fun b o h => (hb7.cell (p := ⟨b, o, none⟩) h) : ∀ b o, b < w6.heap.size → w7.cell? ⟨b, o, none⟩ = w6.cell? ⟨b, o, none⟩))
            | (go_at_call 16; refine (C16 _ hb7).out.mono ?_; rintro e w8 ⟨rfl, hb8'⟩
               have hb8 := hb7.trans (hb8'.mono hz7)
               have Q2 := Lib.hid (fun b o h => (hb8.cell (p := ⟨b, o, none⟩) h) : ∀ b o, b < w6.heap.size → w8.cell? ⟨b, o, none⟩ = w6.cell? ⟨b, o, none⟩))
            | (go_at_call 17; refine (C17 _ hb8).out.mono ?_; rintro e w9 ⟨rfl, hb9'⟩
               have hb9 := hb8.trans (hb9'.mono hb8.size)
               have Q3 := Lib.hid (fun b o h => (hb9.cell (p := ⟨b, o, none⟩) h) : ∀ b o, b < w6.heap.size → w9.cell? ⟨b, o, none⟩ = w6.cell? ⟨b, o, none⟩))
            | (go_at_call 13; refine (C13 _ hb9).out.mono ?_; rintro e w10 ⟨rfl, hb10'⟩
               have hb10 := hb9.trans (hb10'.mono hb9.size)
               have Q4 := Lib.hid (fun b o h => (hb10.cell (p := ⟨b, o, none⟩) h) : ∀ b o, b < w6.heap.size → w10.cell? ⟨b, o, none⟩ = w6.cell? ⟨b, o, none⟩)))
        clear C15 C16 C17 C13 N6 hwr Q0 Q1 Q2 Q3 Q4 y0 y1 y2 y3 t0 t1 t2 t3 hx5 hx4 hx3 hx2
        obtain ⟨g', cur0, eg', -, hcur0, hsc0, -⟩ := hoc.2.2 (by simp)
        injection eg' with eg'; injection eg' with eg' _ _
        subst eg'
        have hcur10 := (hb10.block g hg6).trans hcur0
        have hbl : Below w5.heap.size w5 w10 := hb6.trans (hb10.mono hs6)
        clear hcur0 hoc
        have hsc : (l.length + 1) * 4 ≤ cur0.size := by simpa using hsc0
        clear hsc0
        go_wp2_with fail
        go_loopw [11] (fun i wr => ∃ k : Nat, k ≤ l.length + 1 ∧ i = .int .i64 k ∧ (∃ cur : Array Value, wr.heap[g]? = some (.cells cur 25 (0, 0)) ∧ (l.length + 1) * 4 ≤ cur.size) ∧ Below w5.heap.size w5 wr) (fun i _ => l.length + 1 - (intOf i).toNat)
        case atStart => exact ⟨0, Nat.zero_le _, rfl, ⟨cur0, hcur10, hsc⟩, hbl⟩
        case round =>
          obtain ⟨k, hk, rfl, ⟨cur, hcur, hsz⟩, hbw⟩ := hrel
          by_cases hlt : k < l.length + 1
          · have hlt' : (k : Int) < (l.length : Int) + 1 := by omega
            have hck : wr.cell? ⟨g, k * 4 + 1, none⟩ = some (cur[k * 4 + 1]'(by omega)) := by simp [World.cell?, hcur]
            have hfz : wr.frozen? ⟨g, k * 4 + 1, none⟩ = false := by simp [World.frozen?, hcur]
            have HC := Lib.hid hcur
            clear hcur
            generalize cur[k * 4 + 1] = u at hck
            go_wp2_with fail
            refine ⟨⟨k + 1, by omega, by go_num, ⟨cur.setIfInBounds (k * 4 + 1) (.string ⟨#[115, 112, 111, 105, 108, 116]⟩), ?_, by simpa using hsz⟩, hbw.setCell hg _⟩, by simp [intOf]; omega⟩
            simp [World.setCell, Array.getElem?_modify, HC.out]
          · have hox' := own_below hox (hk3.trans (hbw.mono hk3.size))
            have hoy' := own_below hoy (hk4.trans (hbw.mono hk4.size))
            have hbz := hb5'.trans (hbw.mono hb5'.size)
            have sa := HA.up hbz
            have sb := HB.up hbz
            have L1 := Lib.hid (left16 wr gx capx a ca l _ hox' sa hl1 (by omega))
            have L2 := fun W (h : Below wr.heap.size wr W) => Lib.hid (left16 W gy capy b cb m _ (own_below hoy' h) (sb.up h) hm1 (by omega))
            have L3 := fun W (h : Below wr.heap.size wr W) => Lib.hid (lives16 W ((hp.below hbz).below h))
            clear sa sb hox' hoy' hcur hsz
            go_wp2_with (first
              | (go_at_call_of 18 gx; refine L1.out.mono ?_; rintro e w11 ⟨rfl, hb11⟩)
              | (go_at_call_of 18 gy; refine (L2 _ hb11).out.mono ?_; rintro e w12 ⟨rfl, hb12'⟩; have hb12 := hb11.trans (hb12'.mono hb11.size))
              | (go_at_call 11; refine (L3 _ hb12).out.mono ?_; rintro e w13 ⟨rfl, hb13⟩))
            go_ret
            exact ⟨rfl, hbz.trans ((hb12.trans (hb13.mono hb12.size)).mono hbz.size)⟩
      · have hge : decide ((m.length : Int) ≤ (l.length : Int)) = false := by simp; omega
        have hx5 : Below (w.alloc (.cells #[.int .u8 s.k, .string s.t, .string s.i, .int .i64 s.a] 25)).heap.size (w.alloc (.cells #[.int .u8 s.k, .string s.t, .string s.i, .int .i64 s.a] 25)) w4 := hx4
        have hb5' : Below w.heap.size w w4 := hb4'
        have hsx5 := hx5.size
        simp only [World.size_alloc] at hsx5
        have x0 := (hx5.cell (p := ⟨w.heap.size, 0, none⟩) (by simp)).trans (show _ = some (Value.int .u8 s.k) by go_simp)
        have x1 := (hx5.cell (p := ⟨w.heap.size, 1, none⟩) (by simp)).trans (show _ = some (Value.string s.t) by go_simp)
        have x2 := (hx5.cell (p := ⟨w.heap.size, 2, none⟩) (by simp)).trans (show _ = some (Value.string s.i) by go_simp)
        have x3 := (hx5.cell (p := ⟨w.heap.size, 3, none⟩) (by simp)).trans (show _ = some (Value.int .i64 s.a) by go_simp)
        have hk3 : Below w3.heap.size w3 w4 := hb4
        have hk4 : Below w4.heap.size w4 w4 := Below.refl _ _
        have sx5 := sx.up hk3
        have sy5 := sy.up hk4
        have hto := Lib.hid (to16 w4 (some ⟨gx, 0, none⟩) capx l s sx5 hl1 (by omega))
        go_wp2_with fail
        refine hto.out.mono ?_
        rintro e w6 ⟨g, n, hn, rfl, hg, hoc, hb6⟩
        have hn' : n = l.length + 1 := by rw [hn]; simp
        clear hto hn
        subst hn'
        have hb6' := hb5'.trans (hb6.mono hb5'.size)
        have hs6 := hb6.size
        have st := cells_of_own (l := l ++ [s]) hoc (by simp) (by simp)
        obtain ⟨bg, og, eg, -, hg6, -, t0, t1, t2, t3⟩ := st.at_ (k := l.length) (s := s) (by simp)
        injection eg with eg; injection eg with eg1 eg2 _
        subst eg1; subst eg2
        simp only [Nat.zero_add] at t0 t1 t2 t3
        have y0 := (hb6.cell (p := ⟨w.heap.size, 0, none⟩) (by show w.heap.size < _; omega)).trans x0
        have y1 := (hb6.cell (p := ⟨w.heap.size, 1, none⟩) (by show w.heap.size < _; omega)).trans x1
        have y2 := (hb6.cell (p := ⟨w.heap.size, 2, none⟩) (by show w.heap.size < _; omega)).trans x2
        have y3 := (hb6.cell (p := ⟨w.heap.size, 3, none⟩) (by show w.heap.size < _; omega)).trans x3
        clear x0 x1 x2 x3
        have hwl : w.heap.size < w6.heap.size := by omega
        have stl : Sts w6 0 w6.heap.size (some ⟨g, 0, none⟩) l := by have := st.take l.length; rwa [List.take_left'] at this; rfl
        have sx6 := sx5.up hb6
        have sy6 := sy5.up hb6
        have sa6 := ha.up hb6'
        have sb6 := hb.up hb6'
        have C15 := fun W (h : Below w6.heap.size w6 W) => Lib.hid (cmp16 W (some ⟨gx, 0, none⟩) (some ⟨gy, 0, none⟩) capx capy l m (sx6.up h) (sy6.up h) hl1 hm1)
        have C16 := fun W (h : Below w6.heap.size w6 W) => Lib.hid (refcmp16 W a b ca cb l m (sa6.up h) (sb6.up h) hl1 hm1)
        have C17 := fun W (h : Below w6.heap.size w6 W) => Lib.hid (begins16 W (some ⟨gx, 0, none⟩) (some ⟨gy, 0, none⟩) capx capy l m (sx6.up h) (sy6.up h) hl1 (by omega))
        rw [show decide (m.length ≤ l.length ∧ List.take m.length l = m) = false by simp [hlm]] at C17
        have C13 := fun W (h : Below w6.heap.size w6 W) => Lib.hid (same16 W (some ⟨g, 0, none⟩) a (l.length + 1) ca l l (stl.up h) (sa6.up h) hl1 (by omega))
        simp only [decide_true] at C13
        have N6 := fun w => neq_step w s s
        simp only [decide_true, Bool.not_true] at N6
        have hgl : (l.length : Int) < (l.length : Int) + 1 := by omega
        have HA := ha
        have HB := hb
        clear sx5 sy5 sx6 sy6 sa6 sb6 stl st ha hb
        have hwr : IntKind.i64.wrap ((l.length : Int) + 1) = (l.length : Int) + 1 := IntWalk.i64_in _ (by omega)
        have hle1 : l.length ≤ l.length + 1 := by omega
        have hle2 : (l.length : Int) ≤ (l.length : Int) + 1 := by omega
        have q0 : ∀ b o, b < w6.heap.size → w6.drew.cell? ⟨b, o, none⟩ = w6.cell? ⟨b, o, none⟩ := fun _ _ _ => rfl
        have Q0 := Lib.hid q0
        clear q0
        go_wp2_with fail
        go_region_held3 (fun W => ∀ b o, b < w6.heap.size → W.cell? ⟨b, o, none⟩ = w6.cell? ⟨b, o, none⟩)
          (first | exact Q0.out | exact Q1.out | exact Q2.out | exact Q3.out | exact Q4.out)
          (first
            | (go_at_call 15; refine (C15 _ (Below.refl _ _).drew).out.mono ?_; rintro e w7 ⟨rfl, hb7'⟩
               have hb7 : Below w6.heap.size w6 w7 := below_of_drew hb7'
               have hz7 := hb7.size
               have Q1 := Lib.hid (fun b o h => (hb7.cell (p := ⟨b, o, none⟩) h) : ∀ b o, b < w6.heap.size → w7.cell? ⟨b, o, none⟩ = w6.cell? ⟨b, o, none⟩))
            | (go_at_call 16; refine (C16 _ hb7).out.mono ?_; rintro e w8 ⟨rfl, hb8'⟩
               have hb8 := hb7.trans (hb8'.mono hz7)
               have Q2 := Lib.hid (fun b o h => (hb8.cell (p := ⟨b, o, none⟩) h) : ∀ b o, b < w6.heap.size → w8.cell? ⟨b, o, none⟩ = w6.cell? ⟨b, o, none⟩))
            | (go_at_call 17; refine (C17 _ hb8).out.mono ?_; rintro e w9 ⟨rfl, hb9'⟩
               have hb9 := hb8.trans (hb9'.mono hb8.size)
               have Q3 := Lib.hid (fun b o h => (hb9.cell (p := ⟨b, o, none⟩) h) : ∀ b o, b < w6.heap.size → w9.cell? ⟨b, o, none⟩ = w6.cell? ⟨b, o, none⟩))
            | (go_at_call 13; refine (C13 _ hb9).out.mono ?_; rintro e w10 ⟨rfl, hb10'⟩
               have hb10 := hb9.trans (hb10'.mono hb9.size)
               have Q4 := Lib.hid (fun b o h => (hb10.cell (p := ⟨b, o, none⟩) h) : ∀ b o, b < w6.heap.size → w10.cell? ⟨b, o, none⟩ = w6.cell? ⟨b, o, none⟩)))
        clear C15 C16 C17 C13 N6 hwr Q0 Q1 Q2 Q3 Q4 y0 y1 y2 y3 t0 t1 t2 t3 hx5 hx4 hx3 hx2
        obtain ⟨g', cur0, eg', -, hcur0, hsc0, -⟩ := hoc.2.2 (by simp)
        injection eg' with eg'; injection eg' with eg' _ _
        subst eg'
        have hcur10 := (hb10.block g hg6).trans hcur0
        have hbl : Below w4.heap.size w4 w10 := hb6.trans (hb10.mono hs6)
        clear hcur0 hoc
        have hsc : (l.length + 1) * 4 ≤ cur0.size := by simpa using hsc0
        clear hsc0
        go_wp2_with fail
        go_loopw [11] (fun i wr => ∃ k : Nat, k ≤ l.length + 1 ∧ i = .int .i64 k ∧ (∃ cur : Array Value, wr.heap[g]? = some (.cells cur 25 (0, 0)) ∧ (l.length + 1) * 4 ≤ cur.size) ∧ Below w4.heap.size w4 wr) (fun i _ => l.length + 1 - (intOf i).toNat)
        case atStart => exact ⟨0, Nat.zero_le _, rfl, ⟨cur0, hcur10, hsc⟩, hbl⟩
        case round =>
          obtain ⟨k, hk, rfl, ⟨cur, hcur, hsz⟩, hbw⟩ := hrel
          by_cases hlt : k < l.length + 1
          · have hlt' : (k : Int) < (l.length : Int) + 1 := by omega
            have hck : wr.cell? ⟨g, k * 4 + 1, none⟩ = some (cur[k * 4 + 1]'(by omega)) := by simp [World.cell?, hcur]
            have hfz : wr.frozen? ⟨g, k * 4 + 1, none⟩ = false := by simp [World.frozen?, hcur]
            have HC := Lib.hid hcur
            clear hcur
            generalize cur[k * 4 + 1] = u at hck
            go_wp2_with fail
            refine ⟨⟨k + 1, by omega, by go_num, ⟨cur.setIfInBounds (k * 4 + 1) (.string ⟨#[115, 112, 111, 105, 108, 116]⟩), ?_, by simpa using hsz⟩, hbw.setCell hg _⟩, by simp [intOf]; omega⟩
            simp [World.setCell, Array.getElem?_modify, HC.out]
          · have hox' := own_below hox (hk3.trans (hbw.mono hk3.size))
            have hoy' := own_below hoy (hk4.trans (hbw.mono hk4.size))
            have hbz := hb5'.trans (hbw.mono hb5'.size)
            have sa := HA.up hbz
            have sb := HB.up hbz
            have L1 := Lib.hid (left16 wr gx capx a ca l _ hox' sa hl1 (by omega))
            have L2 := fun W (h : Below wr.heap.size wr W) => Lib.hid (left16 W gy capy b cb m _ (own_below hoy' h) (sb.up h) hm1 (by omega))
            have L3 := fun W (h : Below wr.heap.size wr W) => Lib.hid (lives16 W ((hp.below hbz).below h))
            clear sa sb hox' hoy' hcur hsz
            go_wp2_with (first
              | (go_at_call_of 18 gx; refine L1.out.mono ?_; rintro e w11 ⟨rfl, hb11⟩)
              | (go_at_call_of 18 gy; refine (L2 _ hb11).out.mono ?_; rintro e w12 ⟨rfl, hb12'⟩; have hb12 := hb11.trans (hb12'.mono hb11.size))
              | (go_at_call 11; refine (L3 _ hb12).out.mono ?_; rintro e w13 ⟨rfl, hb13⟩))
            go_ret
            exact ⟨rfl, hbz.trans ((hb12.trans (hb13.mono hb12.size)).mono hbz.size)⟩
    · go_wp2_with fail
      refine (lives16 _ (hp.below hb2')).mono ?_
      rintro e w3 ⟨rfl, hb3⟩
      go_wp2_with fail
      go_ret
      exact ⟨rfl, hb2'.trans (hb3.mono hb2'.size)⟩
  · go_wp2_with fail
    refine (lives16 _ (hp.below hb1')).mono ?_
    rintro e w3 ⟨rfl, hb3⟩
    go_wp2_with fail
    go_ret
    exact ⟨rfl, hb1'.trans (hb3.mono hb1'.size)⟩
end Go.Proofs.YtdapimjhjnbfdaaDoor
