/-
  The document's postorder: a value's nodes added behind those that are there. Conditions: the tree lies in memory below the rows that grow, its weight is bounded; the keys are all unlike.
-/
import Derived.Test.YtmhkacafilpliaaJI
import Derived.Deep.DeepCutAuto
import Derived.Deep.RegionLaw
import Derived.Deep.RegionWith
namespace Go.Proofs.Ytmhkacafilpliaa
open Go.RowKit Go.Sort Go.Shelf

/-- The rows that grow, in their box. -/
def RefI (n₀ B : Nat) (labs : List Lab) (lefts : List Nat) (W : World) : Prop :=
  ∃ al cl af cf, W.heap[B]? = some (.cells #[.slice al labs.length cl, .slice af lefts.length cf, .slice none 0 0] 38 (0, 0)) ∧ W.ownsRow n₀ 78 4 (.slice al labs.length cl) labs.length (labs.flatMap Lab.enc) ∧
    W.ownsRow n₀ 3 1 (.slice af lefts.length cf) lefts.length (lefts.flatMap natE)
/-- What stays. -/
def KpR (n₀ B : Nat) (W W' : World) : Prop := Below n₀ W W' ∧ ∀ k t, Knd W k t → t ≠ 78 → t ≠ 3 → k ≠ B → W'.heap[k]? = W.heap[k]?
section
variable {n₀ B : Nat} {W W' W'' : World} {labs : List Lab} {lefts : List Nat}
theorem KpR.refl : KpR n₀ B W W := ⟨Below.refl _ _, fun _ _ _ _ _ _ => rfl⟩
theorem KpR.trans (h : KpR n₀ B W W') (h2 : KpR n₀ B W' W'') : KpR n₀ B W W'' := ⟨h.1.trans h2.1, fun k t hk h3 h4 h5 => by
  have e := h.2 k t hk h3 h4 h5
  refine (h2.2 k t ?_ h3 h4 h5).trans e
  obtain ⟨c, hc⟩ := hk
  exact ⟨c, e.trans hc⟩⟩
theorem KpR.of_below (hn : n₀ ≤ W.heap.size) (h : Below W.heap.size W W') : KpR n₀ B W W' := ⟨h.mono hn, fun k _ hk _ _ _ => h.block k (knd_lt hk)⟩
theorem KpR.blk {k : Nat} {c : Array Value} {t : TypeId} (h : KpR n₀ B W W') (hk : W.heap[k]? = some (.cells c t (0, 0))) (h3 : t ≠ 78) (h4 : t ≠ 3) (h5 : k ≠ B) : W'.heap[k]? = some (.cells c t (0, 0)) := (h.2 k t ⟨c, hk⟩ h3 h4 h5).trans hk
theorem RefI.up (h : RefI n₀ B labs lefts W) (hb : Below W.heap.size W W') : RefI n₀ B labs lefts W' := by
  obtain ⟨al, cl, af, cf, h1, h2, h3⟩ := h
  exact ⟨al, cl, af, cf, (hb.block B (Array.getElem?_eq_some_iff.1 h1).1).trans h1, own_below h2 hb, own_below h3 hb⟩
theorem RefI.lt (h : RefI n₀ B labs lefts W) : B < W.heap.size := by
  obtain ⟨al, cl, af, cf, h1, -⟩ := h
  exact (Array.getElem?_eq_some_iff.1 h1).1
end
theorem blk_v {w W : World} {a : Addr} {v : Value} (h : Below w.heap.size w W) (hc : w.cell? a = some v) : W.cell? a = some v := (h.cell (World.block_lt_of_cell? w a hc)).trans hc
theorem RefI.set {n₀ B D o : Nat} {W : World} {labs : List Lab} {lefts : List Nat} {v : Value} (h : RefI n₀ B labs lefts W) (hD : Knd W D 4) : RefI n₀ B labs lefts (W.setCell ⟨D, o, none⟩ v) := by
  obtain ⟨al, cl, af, cf, h1, h2, h3⟩ := h
  have hk : ∀ k t, Knd W k t → t ≠ 4 → (W.setCell ⟨D, o, none⟩ v).heap[k]? = W.heap[k]? := fun k t hk ht => Below.heap_setCell _ _ _ k (fun e => knd_ne hk hD ht e)
  have ho : ∀ {e size n : Nat} {u : Value} {xs : List Value}, e ≠ 4 → W.ownsRow n₀ e size u n xs → (W.setCell ⟨D, o, none⟩ v).ownsRow n₀ e size u n xs := fun {e size n u xs} he h => by
    rcases h.2 with ⟨e1, e2⟩ | ⟨q, cap, cur, e1, e2, e3, e4⟩
    · exact ⟨h.1, .inl ⟨e1, e2⟩⟩
    · exact ⟨h.1, .inr ⟨q, cap, cur, e1, e2, (hk q _ ⟨_, e3⟩ he).trans e3, e4⟩⟩
  exact ⟨al, cl, af, cf, (hk B _ ⟨_, h1⟩ (by decide)).trans h1, ho (by decide) h2, ho (by decide) h3⟩
theorem RowI.knd {w : World} {B n : Nat} {t : TypeId} {f : Nat → Value} (h : RowI w B n t f) : Knd w B t := ⟨_, h⟩
theorem KpR.row {n₀ B D n : Nat} {W W' : World} {t : TypeId} {f : Nat → Value} (h : KpR n₀ B W W') (hr : RowI W D n t f) (h3 : t ≠ 78) (h4 : t ≠ 3) (h5 : D ≠ B) : RowI W' D n t f := hr.keep (h.2 D t hr.knd h3 h4 h5)
theorem KpR.set {n₀ B D o : Nat} {W W' : World} {v : Value} (h : KpR n₀ B W W') (hD : W.heap.size ≤ D) (hn : n₀ ≤ W.heap.size) : KpR n₀ B W (W'.setCell ⟨D, o, none⟩ v) :=
  ⟨h.1.setCell (p := ⟨D, o, none⟩) (Nat.le_trans hn hD) v, fun k t hk h3 h4 h5 => (Below.heap_setCell _ _ _ k (fun e => by have h1 := knd_lt hk; have h2 : k = D := e; omega)).trans (h.2 k t hk h3 h4 h5)⟩
theorem pkd_pre (x : AV) (f : PE → List Lab) {k : Nat} : ∀ {d : Nat}, k + d ≤ x.l.length → ((x.pkd k).flatMap f).length ≤ ((x.pkd (k + d)).flatMap f).length
  | 0, _ => Nat.le_refl _
  | d + 1, h => by
    refine Nat.le_trans (pkd_pre x f (d := d) (by omega)) ?_
    obtain ⟨q, -, -, hst⟩ := picks_step (pl_ok x) (n := x.l.length) (k := k + d) (by omega)
    unfold AV.pkd
    rw [show k + (d + 1) = k + d + 1 by omega, hst, List.filterMap_append, List.flatMap_append, List.length_append]
    omega
theorem info_rl : (Try.prog.info? 78).map (fun i => (i.zero, i.size, i.bytes)) = some (some (.agg #[.bool false, .string ⟨#[]⟩, .int .u8 0, .string ⟨#[]⟩]), 4, 48) := by kernel_rfl
theorem info_bo : (Try.prog.info? 4).map (fun i => (i.zero, i.size, i.bytes)) = some (some (.bool false), 1, 1) := by kernel_rfl
def RAddPost (n₀ B : Nat) (labs : List Lab) (lefts : List Nat) (W : World) (e : Ending) (W' : World) : Prop :=
  e = .returned (.tuple #[]) ∧ RefI n₀ B labs lefts W' ∧ KpR n₀ B W W'
theorem pes_at {x : AV} (hkl : x.k = 8 → x.ks.length = x.l.length) {q : Nat} (hq : q < x.l.length) : ∃ y, x.l[q]? = some y ∧ (x.k = 8 → ∃ s, x.ks[q]? = some s ∧ x.pes[q]? = some ⟨true, s, y⟩) ∧ (¬ x.k = 8 → x.pes[q]? = some ⟨false, ⟨#[]⟩, y⟩) := by
  have hls : x.l[q]? = some x.l[q] := List.getElem?_eq_getElem hq
  refine ⟨_, hls, fun h8 => ?_, fun h8 => ?_⟩
  · have hq2 : q < x.ks.length := by rw [hkl h8]; exact hq
    have hks : x.ks[q]? = some x.ks[q] := List.getElem?_eq_getElem hq2
    refine ⟨_, hks, ?_⟩
    unfold AV.pes
    rw [if_pos h8, List.getElem?_map, (List.getElem?_zip_eq_some (z := (x.ks[q], x.l[q]))).2 ⟨hks, hls⟩]; rfl
  · unfold AV.pes
    rw [if_neg h8, List.getElem?_map, hls]; rfl
set_option maxRecDepth 100000 in
set_option maxHeartbeats 6400000 in
theorem radd_step (n₀ B fuel : Nat) (x : AV) (kd : Bool) (key : ByteArray) (labs : List Lab) (lefts : List Nat) (W : World) (hB : n₀ ≤ B) (hI : RefI n₀ B labs lefts W) (hin : x.In W 0 n₀) (hn : n₀ ≤ W.heap.size) (hs : x.v.shape = true) (hw : x.w ≤ 1048576) (hll : lefts.length = labs.length)
    (hb : labs.length + (postF (fuel + 1) ⟨kd, key, x.v⟩).length ≤ 1048576)
    (IH : ∀ e ∈ x.pes, ∀ labs lefts W, RefI n₀ B labs lefts W → e.x.In W 0 n₀ → n₀ ≤ W.heap.size → lefts.length = labs.length → labs.length + (postF fuel e.plc).length ≤ 1048576 →
      Calls Try.prog 48 #[.pointer (some ⟨B, 0, none⟩), e.x.val, .bool e.kd, .string e.key] W (RAddPost n₀ B (labs ++ postF fuel e.plc) (lefts ++ leftF fuel labs.length e.plc) W)) :
    Calls Try.prog 48 #[.pointer (some ⟨B, 0, none⟩), x.val, .bool kd, .string key] W (RAddPost n₀ B (labs ++ postF (fuel + 1) ⟨kd, key, x.v⟩) (lefts ++ leftF (fuel + 1) labs.length ⟨kd, key, x.v⟩) W) := by
  have hkl : x.k = 8 → x.ks.length = x.l.length := fun h8 => by
    have := (shape_eight hs (by rw [AV.v_k]; exact h8)).1
    rwa [AV.v_ks, AV.v_l, List.length_map] at this
  have hwl := x.w_l
  have hBl := hI.lt
  have hll0 := x.w_l
  obtain ⟨i0, hi, hz0, hz1, hz2⟩ := info_parts info_bo
  have hmk := fun W => run_make (P := Try.prog) W 99 4 i0 _ Try.underlying99 hi hz0 .i64 .i64 x.l.length x.l.length (by omega) (Int.le_refl _) (by rw [hz2]; omega) (by omega)
  rw [hz1, Int.toNat_natCast] at hmk
  obtain ⟨mc, hmc⟩ : ∃ mc, mc = madeCells (Value.bool false).cells (x.l.length * 1) := ⟨_, rfl⟩
  rw [← hmc] at hmk
  have hrow : mc = ((List.range x.l.length).map fun i => Value.bool (decide (i ∈ ([] : List Nat)))).toArray := by
    rw [hmc, Nat.mul_one]
    unfold madeCells
    apply Array.ext
    · simp
    · intro i h1 h2; simp [Value.cells, Nat.mod_one]
  have HR := Lib.hid hrow
  have HI := Lib.hid hI
  have HIH := Lib.hid IH
  have HS := Lib.hid hs
  have HKL := Lib.hid hkl
  obtain ⟨al, cl, af, cf, h1, h2, h3⟩ := hI
  have p0 : W.cell? ⟨B, 0, none⟩ = some (.slice al labs.length cl) := by simp [World.cell?, h1]
  have HLL := Lib.hid hll
  clear hi hz0 hz1 hz2 hmc hrow h1 h2 h3 IH hs hkl hll
  go_enter Try.func48, Try.ntmps48
  go_wp2_with fail
  -- the walk, printed by gen_jk.py
  go_loopw [10, 11, 12] (fun s10 _ _ wr => ∃ k : Nat, k ≤ x.l.length ∧ s10 = .int .i64 k ∧ Hid (RefI n₀ B (labs ++ (x.pkd k).flatMap fun e => postF fuel e.plc) (lefts ++ leftsF fuel labs.length [] ((x.pkd k).map PE.plc)) wr) ∧
      Hid (RowI wr (W.heap.size + 1) x.l.length 4 (fun i => .bool (decide (i ∈ picksN x.pl x.l.length k)))) ∧ Hid (wr.heap[W.heap.size]? = some (.cells x.enc.toArray 26 (0, 0))) ∧ Hid (KpR n₀ B W wr)) (fun s10 _ _ _ => x.l.length - (intOf s10).toNat)
  case atStart =>
    have hb2 := ((Below.refl W.heap.size W).alloc (Nat.le_refl _) (.cells #[.int .u8 x.k, .string x.t, .slice x.la x.l.length x.lc, .slice x.ka x.ks.length x.kc] 26)).alloc (by simp) (.cells mc 4)
    have hrw := heap_alloc_new (W.alloc (.cells #[.int .u8 x.k, .string x.t, .slice x.la x.l.length x.lc, .slice x.ka x.ks.length x.kc] 26)) (.cells mc 4)
    rw [World.size_alloc] at hrw
    refine ⟨0, Nat.zero_le _, rfl, ?_, (show Hid _ from by show _ = _; rw [hrw, HR.out]; rfl), Lib.hid ((Below.heap_alloc _ _ _ (by simp)).trans (heap_alloc_new W _)), Lib.hid (KpR.of_below hn hb2)⟩
    have e : x.pkd 0 = [] := rfl
    rw [e, List.flatMap_nil, List.append_nil, List.map_nil]
    show RefI n₀ B labs (lefts ++ []) _
    rw [List.append_nil]
    exact HI.out.up hb2
  case round =>
    obtain ⟨k, hk, rfl, HE, HD, HBX, KK⟩ := hrel
    have hWV := (Array.getElem?_eq_some_iff.1 HBX.out).1
    have hnV : n₀ ≤ wr.heap.size := Nat.le_trans hn KK.out.1.size
    have hin0 := hin
    by_cases hkn : k < x.l.length
    · have hkn' : (k : Int) < (x.l.length : Int) := by omega
      obtain ⟨q0', q1', q2', q3', -, -, -, -⟩ := vbox4 HBX.out
      obtain ⟨V, hV⟩ : ∃ V, V = wr := ⟨_, rfl⟩
      subst hV
      obtain ⟨P, hP⟩ : ∃ P, P = picksN x.pl x.l.length k := ⟨_, rfl⟩
      rw [← hP] at HD
      have HP := Lib.hid hP
      clear hP
      have HBX0 := HBX.out
      go_wp2_with fail
      go_loopw [11, 12] (fun s11 s12 wr => ∃ i : Nat, i ≤ x.l.length ∧ s12 = .int .i64 i ∧ s11 = .int .i64 (pkI (pickN x.pl P i)) ∧ Hid (Below V.heap.size V wr)) (fun _ s12 _ => x.l.length - (intOf s12).toNat)
      case atStart => exact ⟨0, Nat.zero_le _, rfl, rfl, Lib.hid (Below.refl _ _)⟩
      case round =>
        obtain ⟨i, hi, rfl, rfl, HB⟩ := hrel
        have hbx : wr.heap[W.heap.size]? = some (.cells x.enc.toArray 26 (0, 0)) := (HB.out.block _ hWV).trans HBX0
        obtain ⟨q0, q1, q2, q3, -, -, -, -⟩ := vbox4 hbx
        have hdr := HD.out.up HB.out
        have hGl := hdr.lt
        have hWl : W.heap.size < wr.heap.size := by omega
        have hwr := HB.out.size
        clear hbx
        by_cases hlt : i < x.l.length
        · have hlt' : (i : Int) < (x.l.length : Int) := by omega
          have hi0 : (0 : Int) ≤ (i : Int) := by omega
          have dn := hdr.cell hlt
          clear hdr
          by_cases hin : i ∈ P
          · have hpk : pickN x.pl P (i + 1) = pickN x.pl P i := by
              rw [pickN]
              cases pickN x.pl P i with
              | none => simp [hin]
              | some q => simp [hin]
            rw [decide_eq_true hin] at dn
            have HPK := Lib.hid hpk
            clear hpk hin
            have LD := Lib.hid (show ∀ W', Below wr.heap.size wr W' → _ from fun W' (h : Below wr.heap.size wr W') => And.intro (blk_v h q0) (And.intro (blk_v h q2) (And.intro (blk_v h q3) ((blk_v h dn)))))

            go_wp2_with fail
            clear q0 q1 q2 q3 dn
            refine wp_region_bl (by kernel_rfl) (by kernel_rfl) ?_
            repeat (first | go_big_quiet_skip | (go_big_quiet_want; go_big_quiet_op; first | go_big_quiet_on | (refine ⟨_, fun _ _ => (by with_reducible rfl), ?_⟩; go_big_quiet_on) | (apply Exists.intro; refine ⟨fun w' hC => (by simp only [LD.out w' hC, Result.andThen]; exact ⟨trivial, rfl⟩), ?_⟩; go_big_quiet_on)))
            refine wpQuiet_nil ?_; intro wz hbz

            have hWl2 : W.heap.size < wz.heap.size := by have := hbz.size; omega
            go_wp2_with fail
            refine ⟨⟨i + 1, by omega, by go_num, by rw [HPK.out], Lib.hid (HB.out.trans (hbz.mono HB.out.size))⟩, by simp [intOf]; omega⟩

          · rw [decide_eq_false hin] at dn
            cases hpn : pickN x.pl P i with
            | none =>
              have hpk : pickN x.pl P (i + 1) = some i := by rw [pickN, hpn]; simp [hin]
              have HPK := Lib.hid hpk
              rw [show pkI none = -1 from rfl]
              clear hpk hin hpn
              have LD := Lib.hid (show ∀ W', Below wr.heap.size wr W' → _ from fun W' (h : Below wr.heap.size wr W') => And.intro (blk_v h q0) (And.intro (blk_v h q2) (And.intro (blk_v h q3) ((blk_v h dn)))))

              go_wp2_with fail
              clear q0 q1 q2 q3 dn
              refine wp_region_bl (by kernel_rfl) (by kernel_rfl) ?_
              repeat (first | go_big_quiet_skip | (go_big_quiet_want; go_big_quiet_op; first | go_big_quiet_on | (refine ⟨_, fun _ _ => (by with_reducible rfl), ?_⟩; go_big_quiet_on) | (apply Exists.intro; refine ⟨fun w' hC => (by simp only [LD.out w' hC, Result.andThen]; exact ⟨trivial, rfl⟩), ?_⟩; go_big_quiet_on)))
              refine wpQuiet_nil ?_; intro wz hbz

              have hWl2 : W.heap.size < wz.heap.size := by have := hbz.size; omega
              go_wp2_with fail
              refine ⟨⟨i + 1, by omega, by go_num, by rw [HPK.out]; rfl, Lib.hid (HB.out.trans (hbz.mono HB.out.size))⟩, by simp [intOf]; omega⟩

            | some q =>
              obtain ⟨hq1, hq2, -⟩ := pick_some (pl_ok x) hpn
              have hq0 : (0 : Int) ≤ (q : Int) := by omega
              have hqn : decide ((q : Int) < 0) = false := by simp
              rw [show pkI (some q) = (q : Int) from rfl]
              by_cases h8 : x.k = 8
              · have h8b : (x.k == 8) = true := by simpa using h8
                have hkl2 := HKL.out h8
                have hik : i < x.ks.length := by omega
                have hqk : q < x.ks.length := by omega
                have hik' : (i : Int) < (x.ks.length : Int) := by omega
                have hqk' : (q : Int) < (x.ks.length : Int) := by omega
                have e1 : x.ks[i]? = some x.ks[i] := List.getElem?_eq_getElem hik
                have e2 : x.ks[q]? = some x.ks[q] := List.getElem?_eq_getElem hqk
                have hpl : x.pl i q = Op.bytesLess x.ks[i].toList x.ks[q].toList := by rw [bytesLess_eq]; unfold AV.pl; rw [e1, e2]; simp [h8]
                generalize x.ks[i] = u at e1 hpl
                generalize x.ks[q] = v at e2 hpl
                have hkV := (hin0.blw (KK.out.1.trans (HB.out.mono hnV)) (Nat.le_refl _)).keys
                obtain ⟨b, off, hka, -, hb1, hb2, c1⟩ := key_at hkV e1
                obtain ⟨b', off', hka', -, -, -, c2⟩ := key_at hkV e2
                rw [hka] at hka'
                cases hka'
                rw [hka] at q3
                have LD := Lib.hid (show ∀ W', Below wr.heap.size wr W' → _ from fun W' (h : Below wr.heap.size wr W') => And.intro (blk_v h q0) (And.intro (blk_v h q2) (And.intro (blk_v h q3) (And.intro (blk_v h dn) (And.intro ((h.cell (p := ⟨_, _, none⟩) hb2).trans c1) (((h.cell (p := ⟨_, _, none⟩) hb2).trans c2)))))))

                cases hbl : Op.bytesLess u.toList v.toList with
                | true =>
                  have hpk : pickN x.pl P (i + 1) = some i := by rw [pickN, hpn]; simp [hin, hpl, hbl]
                  have HPK := Lib.hid hpk
                  clear hpk hin hpn e1 e2 hpl hkV hka c1 c2 h8 hkl2
                  go_wp2_with fail
                  clear q0 q1 q2 q3 dn
                  refine wp_region_bl (by kernel_rfl) (by kernel_rfl) ?_
                  repeat (first | go_big_quiet_skip | (go_big_quiet_want; go_big_quiet_op; first | go_big_quiet_on | (refine ⟨_, fun _ _ => (by with_reducible rfl), ?_⟩; go_big_quiet_on) | (apply Exists.intro; refine ⟨fun w' hC => (by simp only [LD.out w' hC, Result.andThen]; exact ⟨trivial, rfl⟩), ?_⟩; go_big_quiet_on)))
                  refine wpQuiet_nil ?_; intro wz hbz

                  have hWl2 : W.heap.size < wz.heap.size := by have := hbz.size; omega
                  go_wp2_with fail
                  refine ⟨⟨i + 1, by omega, by go_num, by rw [HPK.out]; rfl, Lib.hid (HB.out.trans (hbz.mono HB.out.size))⟩, by simp [intOf]; omega⟩

                | false =>
                  have hpk : pickN x.pl P (i + 1) = some q := by rw [pickN, hpn]; simp [hpl, hbl]
                  have HPK := Lib.hid hpk
                  clear hpk hin hpn e1 e2 hpl hkV hka c1 c2 h8 hkl2
                  go_wp2_with fail
                  clear q0 q1 q2 q3 dn
                  refine wp_region_bl (by kernel_rfl) (by kernel_rfl) ?_
                  repeat (first | go_big_quiet_skip | (go_big_quiet_want; go_big_quiet_op; first | go_big_quiet_on | (refine ⟨_, fun _ _ => (by with_reducible rfl), ?_⟩; go_big_quiet_on) | (apply Exists.intro; refine ⟨fun w' hC => (by simp only [LD.out w' hC, Result.andThen]; exact ⟨trivial, rfl⟩), ?_⟩; go_big_quiet_on)))
                  refine wpQuiet_nil ?_; intro wz hbz

                  have hWl2 : W.heap.size < wz.heap.size := by have := hbz.size; omega
                  go_wp2_with fail
                  refine ⟨⟨i + 1, by omega, by go_num, by rw [HPK.out]; rfl, Lib.hid (HB.out.trans (hbz.mono HB.out.size))⟩, by simp [intOf]; omega⟩

              · have h8b : (x.k == 8) = false := by simpa using h8
                have hpk : pickN x.pl P (i + 1) = some q := by rw [pickN, hpn]; simp [AV.pl, h8]
                have HPK := Lib.hid hpk
                clear hpk hin hpn h8
                have LD := Lib.hid (show ∀ W', Below wr.heap.size wr W' → _ from fun W' (h : Below wr.heap.size wr W') => And.intro (blk_v h q0) (And.intro (blk_v h q2) (And.intro (blk_v h q3) ((blk_v h dn)))))

                go_wp2_with fail
                clear q0 q1 q2 q3 dn
                refine wp_region_bl (by kernel_rfl) (by kernel_rfl) ?_
                repeat (first | go_big_quiet_skip | (go_big_quiet_want; go_big_quiet_op; first | go_big_quiet_on | (refine ⟨_, fun _ _ => (by with_reducible rfl), ?_⟩; go_big_quiet_on) | (apply Exists.intro; refine ⟨fun w' hC => (by simp only [LD.out w' hC, Result.andThen]; exact ⟨trivial, rfl⟩), ?_⟩; go_big_quiet_on)))
                refine wpQuiet_nil ?_; intro wz hbz

                have hWl2 : W.heap.size < wz.heap.size := by have := hbz.size; omega
                go_wp2_with fail
                refine ⟨⟨i + 1, by omega, by go_num, by rw [HPK.out]; rfl, Lib.hid (HB.out.trans (hbz.mono HB.out.size))⟩, by simp [intOf]; omega⟩

        · obtain rfl : i = x.l.length := by omega
          obtain ⟨q, hpq, hqn, hst⟩ := picks_step (pl_ok x) hkn
          rw [show pickN x.pl P x.l.length = some q from by rw [HP.out]; exact hpq, show pkI (some q) = (q : Int) from rfl]
          obtain ⟨y, hy, hy8, hyl⟩ := pes_at HKL.out hqn
          have hq' : (q : Int) < (x.l.length : Int) := by omega
          have hq0 : (0 : Int) ≤ (q : Int) := by omega
          have d0 := hdr.cell hqn
          have f0 := hdr.froz q
          have hD2 : RowI (wr.setCell ⟨W.heap.size + 1, q, none⟩ (.bool true)) (W.heap.size + 1) x.l.length 4 (fun i => .bool (decide (i ∈ P ++ [q]))) := (hdr.set q (.bool true)).cong fun j hj => by
            by_cases e : j = q
            · subst e; simp
            · simp [e]
          have hR2 := (HE.out.up HB.out).set (o := q) (v := .bool true) hdr.knd
          have hK2 : KpR n₀ B W (wr.setCell ⟨W.heap.size + 1, q, none⟩ (.bool true)) := (KK.out.trans (KpR.of_below hnV HB.out)).set (by omega) hn
          have hb4 : (wr.setCell ⟨W.heap.size + 1, q, none⟩ (.bool true)).heap[W.heap.size]? = some (.cells x.enc.toArray 26 (0, 0)) := (Below.heap_setCell _ _ _ _ (fun e => by have h2 : W.heap.size = W.heap.size + 1 := e; omega)).trans ((HB.out.block _ hWV).trans HBX0)
          have hs4 : (wr.setCell ⟨W.heap.size + 1, q, none⟩ (.bool true)).heap.size = wr.heap.size := by simp
          have hpd := fun e he => pkd_step (e := e) hst he
          have hpl1 := pkd_pre x (fun e => postF fuel e.plc) (k := k + 1) (d := x.l.length - (k + 1)) (by omega)
          rw [show k + 1 + (x.l.length - (k + 1)) = x.l.length by omega] at hpl1
          have htot : labs.length + ((x.pkd x.l.length).flatMap fun e => postF fuel e.plc).length + 1 ≤ 1048576 := by
            have e1 : ((x.pkd x.l.length).flatMap fun e => postF fuel e.plc) = x.v.subs.flatMap (postF fuel) := by rw [← pkd_plc HS.out, List.flatMap_map]
            have e2 := hb
            rw [postF_succ, List.length_append, List.length_singleton] at e2
            rw [e1]
            exact (by omega)
          have hLE : (lefts ++ leftsF fuel labs.length [] ((x.pkd k).map PE.plc)).length = (labs ++ (x.pkd k).flatMap fun e => postF fuel e.plc).length := by
            rw [List.length_append, leftsF_len, List.flatMap_map, List.length_append, HLL.out, List.length_nil, Nat.zero_add]
          obtain ⟨c, off, hla, -, hc1, hc2, g0, g1, g2, g3⟩ := vals_at hin0.sl hy
          rw [← hK2.1.cell (p := ⟨_, _, none⟩) hc1] at g0 g1 g2 g3
          have hcl : c < wr.heap.size := by omega
          have hD1 : W.heap.size + 1 < wr.heap.size := hGl
          have hcD : c ≠ W.heap.size + 1 := by omega
          have gg : ∀ j v, (wr.setCell ⟨W.heap.size + 1, q, none⟩ (.bool true)).cell? ⟨c, j, none⟩ = some v → wr.cell? ⟨c, j, none⟩ = some v := fun j v h => by rwa [World.cell?_setCell_other _ _ _ _ (fun e => hcD (by cases e; rfl))] at h
          have g0' := gg _ _ g0
          have g1' := gg _ _ g1
          have g2' := gg _ _ g2
          have g3' := gg _ _ g3
          have hyin : y.In (wr.setCell ⟨W.heap.size + 1, q, none⟩ (.bool true)) 0 n₀ := (hin0.kid (List.mem_of_getElem? hy)).blw hK2.1 (Nat.le_refl _)
          have HST : Hid (picksN x.pl x.l.length (k + 1) = P ++ [q]) := by show _ = _; rw [hst, HP.out]
          have HD2 := Lib.hid hD2
          have HK2 := Lib.hid hK2
          have HBX2 := Lib.hid hb4
          obtain ⟨q0x, q1x, q2x, q3x, -, -, -, -⟩ := vbox4 hb4
          by_cases h8 : x.k = 8
          · obtain ⟨s, hks, hpe⟩ := hy8 h8
            have HPD := Lib.hid (hpd _ hpe)
            have HLE := Lib.hid (show (labs ++ (x.pkd k).flatMap fun e => postF fuel e.plc).length = labs.length + (((x.pkd k).map PE.plc).flatMap (postF fuel)).length by rw [List.length_append, List.flatMap_map])
            have h8b : (x.k == 8) = true := by simpa using h8
            have hqk : q < x.ks.length := (List.getElem?_eq_some_iff.1 hks).1
            have hqk' : (q : Int) < (x.ks.length : Int) := by omega
            obtain ⟨b', off', hka, -, hkb1, hkb2, k0⟩ := key_at hin0.keys hks
            rw [← hK2.1.cell (p := ⟨_, _, none⟩) hkb1] at k0
            have hkD : b' ≠ W.heap.size + 1 := by omega
            have k0' : wr.cell? ⟨b', off' + q, none⟩ = some (.string s) := by rwa [World.cell?_setCell_other _ _ _ _ (fun e => hkD (congrArg Addr.block e).symm)] at k0
            have hcl2 : b' < wr.heap.size := by omega
            have HC := Lib.hid (HIH.out _ (List.mem_of_getElem? hpe) _ _ (wr.setCell ⟨W.heap.size + 1, q, none⟩ (.bool true)).drew (hR2.up (Below.refl _ _).drew) (hyin.blw (Below.refl _ _).drew (Nat.le_refl _)) (by show n₀ ≤ (wr.setCell ⟨W.heap.size + 1, q, none⟩ (.bool true)).heap.size; rw [hs4]; omega) hLE (by
              have := hpl1
              rw [hpd _ hpe, List.flatMap_append, List.length_append, List.flatMap_singleton] at this
              rw [List.length_append]
              omega))
            rw [hla] at q2 q2x
            rw [hka] at q3 q3x
            clear hb4 hD2 hK2 hR2 hpd hpl1 htot hLE g0 g1 g2 g3 gg hyin hst hpq hy hy8 hyl hdr hpe h8 hla hka hks k0
            have hdrw : KpR n₀ B (wr.setCell ⟨W.heap.size + 1, q, none⟩ (.bool true)) (wr.setCell ⟨W.heap.size + 1, q, none⟩ (.bool true)).drew := KpR.of_below (by rw [hs4]; omega) (Below.refl _ _).drew
            have HDW := Lib.hid hdrw
            clear hdrw
            go_wp2_with fail
            go_region_law (first
              | (go_simp; go_at_call 48; refine HC.out.mono ?_; rintro e5 W3 ⟨rfl, hR3, hK3⟩; have HR3 := Lib.hid hR3; have HK3 := Lib.hid (KpR.trans HDW.out hK3); clear hR3 hK3))
            all_goals
              go_wp2_with fail
              refine ⟨⟨k + 1, by omega, by go_num, ?_, ?_, Lib.hid (HK3.out.blk HBX2.out (by decide) (by decide) (by omega)), Lib.hid (HK2.out.trans HK3.out)⟩, by simp [intOf]; omega⟩
              · show RefI _ _ _ _ _
                have := HR3.out
                rw [HLE.out, List.append_assoc, List.append_assoc] at this
                rw [HPD.out, List.flatMap_append, List.map_append, List.map_singleton, leftsF_one, List.flatMap_singleton]
                exact this
              · show RowI _ _ _ _ _
                refine (HK3.out.row HD2.out (by decide) (by decide) (by omega)).cong fun j hj => ?_
                rw [HST.out]
          · have hpe := hyl h8
            have HPD := Lib.hid (hpd _ hpe)
            have HLE := Lib.hid (show (labs ++ (x.pkd k).flatMap fun e => postF fuel e.plc).length = labs.length + (((x.pkd k).map PE.plc).flatMap (postF fuel)).length by rw [List.length_append, List.flatMap_map])
            have h8b : (x.k == 8) = false := by simpa using h8
            have HC := Lib.hid (HIH.out _ (List.mem_of_getElem? hpe) _ _ _ hR2 hyin (by rw [hs4]; omega) hLE (by
              have := hpl1
              rw [hpd _ hpe, List.flatMap_append, List.length_append, List.flatMap_singleton] at this
              rw [List.length_append]
              omega))
            rw [hla] at q2 q2x
            clear hb4 hD2 hK2 hR2 hpd hpl1 htot hLE g0 g1 g2 g3 gg hyin hst hpq hy hy8 hyl hdr hpe h8 hla
            go_wp2_with (go_at_call 48; refine HC.out.mono ?_; rintro e5 W3 ⟨rfl, hR3, hK3⟩; have HR3 := Lib.hid hR3; have HK3 := Lib.hid hK3; clear hR3 hK3)

            refine ⟨⟨k + 1, by omega, by go_num, ?_, ?_, Lib.hid (HK3.out.blk HBX2.out (by decide) (by decide) (by omega)), Lib.hid (HK2.out.trans HK3.out)⟩, by simp [intOf]; omega⟩
            · show RefI _ _ _ _ _
              have := HR3.out
              rw [HLE.out, List.append_assoc, List.append_assoc] at this
              rw [HPD.out, List.flatMap_append, List.map_append, List.map_singleton, leftsF_one, List.flatMap_singleton]
              exact this
            · show RowI _ _ _ _ _
              refine (HK3.out.row HD2.out (by decide) (by decide) (by omega)).cong fun j hj => ?_
              rw [HST.out]

    · obtain rfl : k = x.l.length := by omega
      have hkn' : ¬ (x.l.length : Int) < (x.l.length : Int) := by omega
      obtain ⟨q0, q1, q2, q3, -, -, -, -⟩ := vbox4 HBX.out
      have hWB : W.heap.size ≠ B := by omega
      have hR0 := HE.out
      have hfl : ((x.pkd x.l.length).flatMap fun e => postF fuel e.plc) = x.v.subs.flatMap (postF fuel) := by rw [← pkd_plc HS.out, List.flatMap_map]
      have hfF : (x.pkd x.l.length).map PE.plc = x.v.subs := pkd_plc HS.out
      rw [hfl, hfF] at hR0
      have hpo : labs ++ postF (fuel + 1) ⟨kd, key, x.v⟩ = (labs ++ x.v.subs.flatMap (postF fuel)) ++ [⟨kd, key, x.v.k, x.v.t⟩] := by rw [postF_succ, List.append_assoc]
      have hpf : lefts ++ leftF (fuel + 1) labs.length ⟨kd, key, x.v⟩ = (lefts ++ leftsF fuel labs.length [] x.v.subs) ++ [labs.length] := by rw [leftF_succ, List.append_assoc]
      have hbl : (labs ++ x.v.subs.flatMap (postF fuel)).length + 1 ≤ 1048576 := by
        have e2 := hb
        rw [postF_succ, List.length_append, List.length_singleton] at e2
        rw [List.length_append]
        omega
      have hbf : (lefts ++ leftsF fuel labs.length [] x.v.subs).length + 1 ≤ 1048576 := by
        rw [List.length_append] at hbl ⊢
        rw [leftsF_len, List.length_nil, HLL.out]
        omega
      generalize labs ++ x.v.subs.flatMap (postF fuel) = LB at *
      generalize lefts ++ leftsF fuel labs.length [] x.v.subs = LF at *
      obtain ⟨al2, cl2, af2, cf2, h1, h2, h3⟩ := hR0
      obtain ⟨i3, hi3, hy0, hy1, hy2⟩ := info_parts info_in
      obtain ⟨i1, hi1, hx0, hx1, hx2⟩ := info_parts info_rl
      have hBl2 : B < wr.heap.size := (Array.getElem?_eq_some_iff.1 h1).1
      have pp0 : wr.cell? ⟨B, 0, none⟩ = some (.slice al2 LB.length cl2) := by simp [World.cell?, h1]
      obtain ⟨lb, hlb⟩ : ∃ lb : Lab, lb = ⟨kd, key, x.k, x.t⟩ := ⟨_, rfl⟩
      have hlv : (⟨kd, key, x.v.k, x.v.t⟩ : Lab) = lb := by rw [hlb, AV.v_k, AV.v_t]
      rw [hlv] at hpo
      have HPO := Lib.hid hpo
      have HPF := Lib.hid hpf
      have hle : lb.enc.toArray = #[.bool kd, .string key, .int .u8 x.k, .string x.t] := by rw [hlb]; rfl
      have hbd : Below wr.heap.size wr wr.drew := (Below.refl _ _).drew
      obtain ⟨v1, w4, hrun1, hown1, hgr1, -⟩ := run_append_own (P := Try.prog) (wr.drew.alloc (.cells lb.enc.toArray 78)) n₀ 36 36 78 i1 _ 4 48 Try.underlying36 hi1 hx0 hx1 hx2 rfl (by decide) _ _ _ (own_below h2 (hbd.alloc (Nat.le_refl _) _)) ⟨wr.heap.size, 0, none⟩ 1 1 lb.enc rfl (fun j u hu => by
        have := heap_alloc_new wr.drew (.cells lb.enc.toArray 78)
        rw [show wr.drew.heap.size = wr.heap.size from rfl] at this
        rw [add_none, World.cell?, this]
        simpa using hu) (Lab.enc_one _) (by simp only [maxLen]; omega) (by omega) (by rw [World.size_alloc]; show n₀ ≤ wr.heap.size + 1; omega)
      obtain ⟨g1, k1, rfl⟩ := ownsRow_succ hown1
      obtain ⟨s1, s2, s3, s4, s5, s6⟩ := app_store (W := wr.drew) (j := 0) h1 hB (by decide) (own_below h2 hbd) hnV hown1 hgr1
      have p40 : w4.cell? ⟨B, 0, none⟩ = some (.slice al2 LB.length cl2) := by simp [World.cell?, s1]
      have f40 : w4.frozen? ⟨B, 0, none⟩ = false := by simp [World.frozen?, s1]
      have p41 : w4.cell? ⟨B, 1, none⟩ = some (.slice af2 LF.length cf2) := by simp [World.cell?, s1]
      have hB4 : B < w4.heap.size := (Array.getElem?_eq_some_iff.1 s1).1
      obtain ⟨w5, hw5⟩ : ∃ w5, w5 = w4.setCell ⟨B, 0, none⟩ (.slice (some ⟨g1, 0, none⟩) (LB.length + 1) k1) := ⟨_, rfl⟩
      rw [← hw5] at s2 s3 s4 s5 s6
      have e5 : w5.heap.size = w4.heap.size := by rw [hw5]; simp
      have hrl5 : w5.ownsRow n₀ 3 1 (.slice af2 LF.length cf2) LF.length (LF.flatMap natE) := by
        rcases h3.2 with ⟨e1, e2⟩ | ⟨q, cap, cur, e1, e2, e3, e4⟩
        · exact ⟨h3.1, .inl ⟨e1, e2⟩⟩
        · exact ⟨h3.1, .inr ⟨q, cap, cur, e1, e2, (s4 q _ ⟨_, e3⟩ (by decide) (knd_ne ⟨_, e3⟩ ⟨_, h1⟩ (by decide))).trans e3, e4⟩⟩
      have hn5 : n₀ ≤ w5.heap.size := Nat.le_trans hnV s6.size
      obtain ⟨v2, w6, hrun2, hown2, hgr2, -⟩ := run_append_own (P := Try.prog) (w5.alloc (.cells #[.int .i64 (labs.length : Int)] 3)) n₀ 31 31 3 i3 (.int .i64 0) 1 8 Try.underlying31 hi3 hy0 hy1 hy2 rfl (by decide) _ _ _ (own_below hrl5 ((Below.refl _ w5).alloc (Nat.le_refl _) _)) ⟨w4.heap.size, 0, none⟩ 1 1 [.int .i64 (labs.length : Int)] rfl (by rw [← e5]; exact cell_one_new _ _ _) (by simp [Value.oneCell']) (by simp only [maxLen]; omega) (by omega) (by rw [World.size_alloc]; omega)
      obtain ⟨g2, k2, rfl⟩ := ownsRow_succ hown2
      obtain ⟨t1, t2, t3, t4, t5, t6⟩ := app_store (j := 1) s2 hB (by decide) hrl5 hn5 hown2 hgr2
      have p61 : w6.cell? ⟨B, 1, none⟩ = some (.slice af2 LF.length cf2) := by simp [World.cell?, t1]
      have f61 : w6.frozen? ⟨B, 1, none⟩ = false := by simp [World.frozen?, t1]
      have hown3 : (w6.setCell ⟨B, 1, none⟩ (.slice (some ⟨g2, 0, none⟩) (LF.length + 1) k2)).ownsRow n₀ 78 4 (.slice (some ⟨g1, 0, none⟩) (LB.length + 1) k1) (LB.length + 1) (LB.flatMap Lab.enc ++ lb.enc) := by
        rcases s3.2 with ⟨e1, e2⟩ | ⟨q, cap, cur, e1, e2, e3, e4⟩
        · omega
        · exact ⟨s3.1, .inr ⟨q, cap, cur, e1, e2, (t4 q _ ⟨_, e3⟩ (by decide) (knd_ne ⟨_, e3⟩ ⟨_, s2⟩ (by decide))).trans e3, e4⟩⟩
      have hfin : RefI n₀ B (LB ++ [lb]) (LF ++ [labs.length]) (w6.setCell ⟨B, 1, none⟩ (.slice (some ⟨g2, 0, none⟩) (LF.length + 1) k2)) ∧ KpR n₀ B W (w6.setCell ⟨B, 1, none⟩ (.slice (some ⟨g2, 0, none⟩) (LF.length + 1) k2)) := by
        refine ⟨⟨some ⟨g1, 0, none⟩, k1, some ⟨g2, 0, none⟩, k2, ?_, ?_, ?_⟩, KK.out.trans (KpR.trans (KpR.of_below hnV hbd) ⟨s6.trans t6, fun k t hk h3 h4 h5 => ?_⟩)⟩
        · rw [t2]; simp
        · rw [List.flatMap_append, List.length_append]; simpa using hown3
        · rw [List.flatMap_append, List.length_append]; simpa using t3
        · have e1 := s4 k t hk h3 h5
          exact (t4 k t (by obtain ⟨c, hc⟩ := hk; exact ⟨c, e1.trans hc⟩) h4 h5).trans e1
      rw [hw5] at hrun2
      rw [hle] at hrun1
      have HR1 := Lib.hid hrun1
      have HR2 := Lib.hid hrun2
      have HFIN := Lib.hid hfin
      clear hrun1 hrun2 hfin hown3 t1 t2 t3 t4 t5 t6 hown2 hgr2 hrl5 hn5 s1 s2 s3 s4 s5 s6 hown1 hgr1 h1 h2 h3 hpo hpf hfl hfF hlv hle hlb hw5 e5 hmk
      go_wp2_with fail
      go_region_law (first | (refine st_append (s := .tmp 93) (x := .tmp 101) rfl rfl HR1.out ?_))
      all_goals
        go_wp2_with (at_builtin; refine wl_append (s := .tmp 109) (x := .tmp 111) rfl rfl HR2.out ?_)
        go_end0
        refine ⟨rfl, ?_⟩
        rw [HPO.out, HPF.out]
        exact HFIN.out
end Go.Proofs.Ytmhkacafilpliaa
