/-
  The law's other of chapter 19: a postorder as the document has it. Conditions: it lies in memory, of at most 2^20 nodes.
-/
import Derived.Test.YtmhkacafilpliaaJX
namespace Go.Proofs.Ytmhkacafilpliaa
open Go.RowKit Go.Sort Go.Shelf

def Other19Post (p : PA) (w : World) (e : Ending) (w' : World) : Prop :=
  ∃ al cl, e = .returned (.agg #[.slice al p.L.length cl, .slice p.af p.F.length p.cf, .slice p.ar p.R.length p.cr]) ∧ SlE Lab.enc 4 w' 0 w'.heap.size al p.L ∧ Below w.heap.size w w'
set_option maxRecDepth 100000 in
set_option maxHeartbeats 6400000 in
theorem other19_c (w : World) (al af ar : Option Addr) (cl cf cr : Nat) (L : List Lab) (F R : List Int) (hp : PA.Rd ⟨al, cl, af, cf, ar, cr, L, F, R⟩ w) (hn : L.length ≤ 1048575) :
    Calls Try.prog 22 #[.agg (pBox al L.length cl af F.length cf ar R.length cr)] w (Other19Post ⟨al, cl, af, cf, ar, cr, L, F, R⟩ w) := by
  have HL := Lib.hid hp.l
  clear hp
  go_enter Try.func22, Try.ntmps22
  go_wp2_with fail
  go_loopw [4, 5] (fun s4 _ wr => ∃ j : Nat, j ≤ L.length ∧ s4 = .int .i64 (j : Int) ∧
    Hid (∃ a1 c1, wr.heap[w.heap.size + 1 + 1]? = some (.cells #[.slice a1 (L.take j).length c1, .slice af F.length cf, .slice ar R.length cr] 38 (0, 0)) ∧ wr.ownsRow w.heap.size 78 4 (.slice a1 (L.take j).length c1) (L.take j).length ((L.take j).flatMap Lab.enc)) ∧
    Hid (wr.heap[w.heap.size]? = some (.cells (pBox al L.length cl af F.length cf ar R.length cr) 33 (0, 0))) ∧
    Hid (wr.heap[w.heap.size + 1]? = some (.cells #[.slice none 0 0, .slice none 0 0, .slice none 0 0] 38 (0, 0))) ∧ Hid (Below w.heap.size w wr)) (fun s4 _ _ => L.length - (intOf s4).toNat)
  case atStart =>
    have hb3 := (((Below.refl w.heap.size w).alloc (Nat.le_refl _) (.cells (pBox al L.length cl af F.length cf ar R.length cr) 33)).alloc (by simp) (.cells #[.slice none 0 0, .slice none 0 0, .slice none 0 0] 38)).alloc (by simp; omega) (.cells #[.slice none 0 0, .slice af F.length cf, .slice ar R.length cr] 38)
    obtain ⟨t1, t2, t3, -, -⟩ := three_at (Below.refl (((w.alloc (.cells (pBox al L.length cl af F.length cf ar R.length cr) 33)).alloc (.cells #[.slice none 0 0, .slice none 0 0, .slice none 0 0] 38)).alloc (.cells #[.slice none 0 0, .slice af F.length cf, .slice ar R.length cr] 38)).heap.size _)
    exact ⟨0, Nat.zero_le _, rfl, Lib.hid ⟨none, 0, t3, World.ownsRow_nil _ _ _ _⟩, Lib.hid t1, Lib.hid t2, Lib.hid hb3⟩
  case round =>
    obtain ⟨j, hj, rfl, HI, HBX, HBQ, HB⟩ := hrel
    obtain ⟨q0, q1, q2, -, -, -⟩ := box3 HBX.out
    have hWX : w.heap.size < wr.heap.size := (Array.getElem?_eq_some_iff.1 HBX.out).1
    have hWQ : w.heap.size + 1 < wr.heap.size := (Array.getElem?_eq_some_iff.1 HBQ.out).1
    obtain ⟨a1, c1, h1, h2⟩ := HI.out
    have hWI : w.heap.size + 1 + 1 < wr.heap.size := (Array.getElem?_eq_some_iff.1 h1).1
    by_cases hlt : j < L.length
    · have hx : L[j]? = some L[j] := List.getElem?_eq_getElem hlt
      have hlt1 : (j : Int) < (L.length : Int) := by omega
      generalize L[j] = lb at hx
      have hsL : L.take (j + 1) = L.take j ++ [lb] := by rw [List.take_add_one, hx]; rfl
      obtain ⟨b1, o1, ea, -, hb1, -, d0, d1, d2, d3⟩ := lab_at (HL.out.up HB.out) hx
      have hTl : (L.take j).length = j := by rw [List.length_take]; omega
      generalize L.take j = LB at *
      have hnV : w.heap.size ≤ wr.heap.size := HB.out.size
      have hB : w.heap.size ≤ w.heap.size + 1 + 1 := by omega
      have hbd : Below wr.heap.size wr (wr.alloc (.cells #[.bool lb.kd, .string lb.key, .int .u8 lb.k, .string lb.t] 46)) := (Below.refl _ _).alloc (Nat.le_refl _) _
      obtain ⟨V, hV⟩ : ∃ V, V = wr.alloc (.cells #[.bool lb.kd, .string lb.key, .int .u8 lb.k, .string lb.t] 46) := ⟨_, rfl⟩
      rw [← hV] at hbd
      obtain ⟨i1, hi1, hx0, hx1, hx2⟩ := info_parts info_rl
      have hle : lb.enc.toArray = #[.bool lb.kd, .string lb.key, .int .u8 lb.k, .string lb.t] := rfl
      have h1V := (hbd.block _ hWI).trans h1
      obtain ⟨v1, w4, hrun1, hown1, hgr1, -⟩ := run_append_own (P := Try.prog) (V.alloc (.cells lb.enc.toArray 78)) w.heap.size 36 36 78 i1 _ 4 48 Try.underlying36 hi1 hx0 hx1 hx2 rfl (by decide) _ _ _ (own_below h2 (hbd.alloc hbd.size _)) ⟨V.heap.size, 0, none⟩ 1 1 lb.enc rfl (fun j u hu => by
        have := heap_alloc_new V (.cells lb.enc.toArray 78)
        rw [add_none, World.cell?, this]
        simpa using hu) (Lab.enc_one _) (by simp only [maxLen]; omega) (by omega) (by rw [World.size_alloc]; have := hbd.size; omega)
      obtain ⟨g1, k1, rfl⟩ := ownsRow_succ hown1
      obtain ⟨s1, s2, s3, s4, s5, s6⟩ := app_store (W := V) (j := 0) h1V hB (by decide) (own_below h2 hbd) (Nat.le_trans hnV hbd.size) hown1 hgr1
      have p40 : w4.cell? ⟨w.heap.size + 1 + 1, 0, none⟩ = some (.slice a1 LB.length c1) := by simp [World.cell?, s1]
      have f40 : w4.frozen? ⟨w.heap.size + 1 + 1, 0, none⟩ = false := by simp [World.frozen?, s1]
      have pp0 : wr.cell? ⟨w.heap.size + 1 + 1, 0, none⟩ = some (.slice a1 LB.length c1) := by simp [World.cell?, h1]
      have hVs : V.heap.size = wr.heap.size + 1 := by rw [hV]; simp
      rw [hVs, hle, hV] at hrun1
      have HR1 := Lib.hid hrun1
      have HS := Lib.hid hsL
      have HXB := Lib.hid ((s4 _ _ ⟨_, (hbd.block _ hWX).trans HBX.out⟩ (by decide) (by omega)).trans ((hbd.block _ hWX).trans HBX.out))
      have HXQ := Lib.hid ((s4 _ _ ⟨_, (hbd.block _ hWQ).trans HBQ.out⟩ (by decide) (by omega)).trans ((hbd.block _ hWQ).trans HBQ.out))
      have HBB := Lib.hid (HB.out.trans ((hbd.mono hnV).trans s6))
      have HOW := Lib.hid (And.intro s2 s3)
      rw [ea] at q0
      have HEA := Lib.hid ea
      clear hrun1 hown1 hgr1 s1 s2 s3 s4 s5 s6 h1V hbd hV hVs hle h1 h2 hsL hx ea hTl
      go_wp2_with (at_builtin; refine wl_append (s := .tmp 24) (x := .tmp 34) rfl rfl HR1.out ?_)
      refine ⟨⟨j + 1, by omega, by go_num, Lib.hid ⟨some ⟨g1, 0, none⟩, k1, ?_, ?_⟩, HXB, HXQ, HBB⟩, by simp [intOf]; omega⟩
      · rw [HS.out]
        have := HOW.out.1
        simpa using this
      · rw [HS.out, List.flatMap_append, List.length_append]
        have := HOW.out.2
        simpa using this
    · obtain rfl : j = L.length := by omega
      rw [List.take_length] at h1 h2
      obtain ⟨r0, r1, r2, -, -, -⟩ := box3 h1
      obtain ⟨y0, y1, y2, z0, z1, z2⟩ := box3 HBQ.out
      have HH := Lib.hid (And.intro h1 h2)
      clear h1 h2
      go_wp2_with fail
      have hbk := Go.Joins.block_setCell (i := 2) (Go.Joins.block_setCell (i := 1) (Go.Joins.block_setCell (i := 0) HBQ.out (.slice a1 L.length c1)) (.slice af F.length cf)) (.slice ar R.length cr)
      obtain ⟨u0, u1, u2, -, -, -⟩ := box3 (a := .slice a1 L.length c1) (b := .slice af F.length cf) (c := .slice ar R.length cr) (t := 38) hbk
      have hB5 : Below w.heap.size w (((wr.setCell ⟨w.heap.size + 1, 0, none⟩ (.slice a1 L.length c1)).setCell ⟨w.heap.size + 1, 1, none⟩ (.slice af F.length cf)).setCell ⟨w.heap.size + 1, 2, none⟩ (.slice ar R.length cr)) := ((HB.out.setCell (p := ⟨w.heap.size + 1, 0, none⟩) (by show w.heap.size ≤ w.heap.size + 1; omega) _).setCell (p := ⟨w.heap.size + 1, 1, none⟩) (by show w.heap.size ≤ w.heap.size + 1; omega) _).setCell (p := ⟨w.heap.size + 1, 2, none⟩) (by show w.heap.size ≤ w.heap.size + 1; omega) _
      have hr1 := own_read (enc := Lab.enc) (W' := ((wr.setCell ⟨w.heap.size + 1, 0, none⟩ (.slice a1 L.length c1)).setCell ⟨w.heap.size + 1, 1, none⟩ (.slice af F.length cf)).setCell ⟨w.heap.size + 1, 2, none⟩ (.slice ar R.length cr)) (fun _ => rfl) HH.out.2 (fun k hk => by
        have hk1 : k ≠ w.heap.size + 1 := knd_ne hk ⟨_, HBQ.out⟩ (by decide)
        rw [Below.heap_setCell _ _ _ k hk1, Below.heap_setCell _ _ _ k hk1, Below.heap_setCell _ _ _ k hk1])
      generalize hW5 : ((wr.setCell ⟨w.heap.size + 1, 0, none⟩ (.slice a1 L.length c1)).setCell ⟨w.heap.size + 1, 1, none⟩ (.slice af F.length cf)).setCell ⟨w.heap.size + 1, 2, none⟩ (.slice ar R.length cr) = W5 at *
      exact bodyPost_ret (v := .agg #[.slice a1 L.length c1, .slice af F.length cf, .slice ar R.length cr]) (by simp [results, Try.results22, go_sem, u0, u1, u2]) rfl ⟨a1, c1, rfl, hr1.widen (Nat.zero_le _) (Nat.le_refl _), hB5⟩
end Go.Proofs.Ytmhkacafilpliaa
