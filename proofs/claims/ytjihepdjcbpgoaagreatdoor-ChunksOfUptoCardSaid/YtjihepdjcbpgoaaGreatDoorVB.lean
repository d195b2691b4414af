/-
  quotes.letter as a plain function of bytes. Condition: the table of short escapes holds what its initialiser lays.
  quotes.Write as a plain function of bytes. Conditions: the table of short escapes holds what its initialiser lays, texts of bounded length.
-/
import Derived.Test.YtjihepdjcbpgoaaGreatDoorBase
import Derived.Test.YtjihepdjcbpgoaaGreatDoorProg
import Derived.Laws.Rows
import Derived.Outline
import Derived.IntWalk
import Derived.Test.YtjihepdjcbpgoaaGreatDoorP7
import Derived.Lib.ConvBytes
import Derived.Lib.SmallJoins
import Derived.Deep.RegionHeld3
namespace Go.Proofs.YtjihepdjcbpgoaaGreatDoor
open Go.RowKit

def letterL (c : UInt8) : UInt8 := if c = 34 then 34 else if c = 92 then 92 else if c = 8 then 98 else if c = 12 then 102 else if c = 10 then 110 else if c = 13 then 114 else if c = 9 then 116 else 0
/-- The table of short escapes. -/
def shTab : Array Value := #[.int .u8 34, .int .u8 34, .int .u8 92, .int .u8 92, .int .u8 47, .int .u8 47, .int .u8 98, .int .u8 8, .int .u8 102, .int .u8 12, .int .u8 110, .int .u8 10, .int .u8 114, .int .u8 13, .int .u8 116, .int .u8 9]
def shA (k : Nat) : Int := [34, 92, 47, 98, 102, 110, 114, 116].getD k 0
def shB (k : Nat) : Int := [34, 92, 47, 8, 12, 10, 13, 9].getD k 0
def Shorts (w : World) : Prop := ∃ t fr, w.heap[0]? = some (.cells shTab t fr)
theorem Shorts.below {w w' : World} (h : Shorts w) (hb : Below w.heap.size w w') : Shorts w' := by
  obtain ⟨t, fr, h⟩ := h
  refine ⟨t, fr, (hb.block _ ?_).trans h⟩
  rcases Nat.lt_or_ge 0 w.heap.size with hlt | hge
  · exact hlt
  · rw [Array.getElem?_eq_none hge] at h; cases h
theorem sh_idx (w : World) : ∀ k : Nat, k < 8 → (Instr.index 181 (.agg shTab) (.int .i64 k)).run Tryz.prog w = .ok (.agg #[.int .u8 (shA k), .int .u8 (shB k)]) w
  | 0, _ => by kernel_rfl
  | 1, _ => by kernel_rfl
  | 2, _ => by kernel_rfl
  | 3, _ => by kernel_rfl
  | 4, _ => by kernel_rfl
  | 5, _ => by kernel_rfl
  | 6, _ => by kernel_rfl
  | 7, _ => by kernel_rfl
  | k + 8, h => absurd h (by omega)
theorem letter_hit (c : UInt8) (k : Nat) (hk : k < 8) (h1 : shB k = c.toNat) (h2 : c ≠ 47) : ((letterL c).toNat : Int) = shA k := by
  have hc : ∀ n : Nat, n < 256 → c.toNat = n → c = UInt8.ofNat n := fun n _ h => by rw [← h]; simp
  match k, hk with
  | 0, _ => rw [hc 34 (by decide) (by simp [shB] at h1; omega)]; rfl
  | 1, _ => rw [hc 92 (by decide) (by simp [shB] at h1; omega)]; rfl
  | 2, _ => exact absurd (hc 47 (by decide) (by simp [shB] at h1; omega)) h2
  | 3, _ => rw [hc 8 (by decide) (by simp [shB] at h1; omega)]; rfl
  | 4, _ => rw [hc 12 (by decide) (by simp [shB] at h1; omega)]; rfl
  | 5, _ => rw [hc 10 (by decide) (by simp [shB] at h1; omega)]; rfl
  | 6, _ => rw [hc 13 (by decide) (by simp [shB] at h1; omega)]; rfl
  | 7, _ => rw [hc 9 (by decide) (by simp [shB] at h1; omega)]; rfl
theorem letter_miss (c : UInt8) (h : ∀ k, k < 8 → ¬ (shB k = c.toNat ∧ c ≠ 47)) : letterL c = 0 := by
  have hn : ∀ k, k < 8 → ∀ n : UInt8, n ≠ 47 → shB k = n.toNat → c ≠ n := fun k hk n h47 hs e => h k hk (by subst e; exact ⟨hs, h47⟩)
  unfold letterL
  rw [if_neg (hn 0 (by omega) _ (by decide) rfl), if_neg (hn 1 (by omega) _ (by decide) rfl), if_neg (hn 3 (by omega) _ (by decide) rfl), if_neg (hn 4 (by omega) _ (by decide) rfl), if_neg (hn 5 (by omega) _ (by decide) rfl), if_neg (hn 6 (by omega) _ (by decide) rfl), if_neg (hn 7 (by omega) _ (by decide) rfl)]
theorem sh_bd (k : Nat) : 0 ≤ shA k ∧ shA k < 256 ∧ 0 ≤ shB k ∧ shB k < 256 := by
  by_cases h : k < 8
  · match k, h with
    | 0, _ => decide
    | 1, _ => decide
    | 2, _ => decide
    | 3, _ => decide
    | 4, _ => decide
    | 5, _ => decide
    | 6, _ => decide
    | 7, _ => decide
  · have e1 : shA k = 0 := by unfold shA; rw [List.getD_eq_getElem?_getD, List.getElem?_eq_none (by simp; omega)]; rfl
    have e2 : shB k = 0 := by unfold shB; rw [List.getD_eq_getElem?_getD, List.getElem?_eq_none (by simp; omega)]; rfl
    omega

set_option maxRecDepth 100000 in
set_option maxHeartbeats 1600000 in
theorem letter_c (w : World) (c : UInt8) (hS : Shorts w) : Calls Tryz.prog 124 #[.int .u8 c.toNat] w (Ret (.int .u8 (letterL c).toNat) w) := by
  obtain ⟨tt, fr, hg1⟩ := hS
  have hL := Lib.hid (letter_hit c)
  have hM := Lib.hid (letter_miss c)
  go_enter Tryz.func124, Tryz.ntmps124
  go_wp2_with (refine wpList_load_row rfl 181 _ rfl 0 rfl tt _ fr _ hg1 Tryz.underlying181 rfl (by kernel_rfl) ?_)
  go_loopw [4, 6] (fun _ i wr => ∃ k : Nat, k ≤ 8 ∧ i = .int .i64 k ∧ (∀ j, j < k → ¬ (shB j = c.toNat ∧ c ≠ 47)) ∧ Below w.heap.size w wr) (fun _ i _ => 8 - (intOf i).toNat)
  case atStart => exact ⟨0, Nat.zero_le _, rfl, fun j h => absurd h (by omega), Below.refl _ _⟩
  case round =>
    obtain ⟨k, hk, rfl, hno, hbw⟩ := hrel
    have hsz := hbw.size
    have HN := Lib.hid hno
    clear hno
    by_cases hlt : k < 8
    · have hi := fun W => sh_idx W k hlt
      have hlt' : (k : Int) < 8 := by omega
      obtain ⟨b0, b1, b2, b3⟩ := sh_bd k
      go_wp2_with fail
      · have h1 : shB k = ↑c.toNat := by assumption
        have h2 : ((c.toNat : Int) != 47) = true := by assumption
        have hv := Lib.hid (hL.out k hlt h1 (fun e => by subst e; simp at h2))
        go_ret
        exact ⟨by rw [hv.out]; rfl, hbw.alloc hsz _⟩
      · have h1 : shB k = ↑c.toNat := by assumption
        have h2 : ((c.toNat : Int) != 47) = false := by assumption
        refine ⟨⟨k + 1, by omega, by go_num, fun j hj h => ?_, hbw.alloc hsz _⟩, by simp [intOf]; omega⟩
        rcases Nat.lt_or_ge j k with hj2 | hj2
        · exact HN.out j hj2 h
        · exact h.2 (by
            have : c.toNat = 47 := by simp at h2; omega
            rw [← UInt8.toNat_inj]; exact this)
      · have h1 : ¬ shB k = ↑c.toNat := by assumption
        refine ⟨⟨k + 1, by omega, by go_num, fun j hj h => ?_, hbw.alloc hsz _⟩, by simp [intOf]; omega⟩
        rcases Nat.lt_or_ge j k with hj2 | hj2
        · exact HN.out j hj2 h
        · obtain rfl : j = k := by omega
          exact h1 h.1
    · obtain rfl : k = 8 := by omega
      have hz := Lib.hid (hM.out HN.out)
      go_wp2_with fail
      go_ret
      exact ⟨by rw [hz.out]; rfl, hbw⟩
end Go.Proofs.YtjihepdjcbpgoaaGreatDoor

namespace Go.Proofs.YtjihepdjcbpgoaaGreatDoor
open Go.RowKit

def quoteB (c : UInt8) : List UInt8 := if letterL c ≠ 0 then [92, letterL c] else if c.toNat < 32 then [92, 117, 48, 48, hexd (c.toNat / 16), hexd (c.toNat % 16)] else [c]
def quoteL (s : List UInt8) : List UInt8 := [34] ++ s.flatMap quoteB ++ [34]
theorem quoteB_len (c : UInt8) : (quoteB c).length ≤ 6 := by
  unfold quoteB
  split
  · simp
  · split <;> simp
theorem quoteF_len : ∀ s : List UInt8, (s.flatMap quoteB).length ≤ 6 * s.length
  | [] => by simp
  | c :: s => by have := quoteB_len c; have := quoteF_len s; simp only [List.flatMap_cons, List.length_append, List.length_cons]; omega
theorem quoteL_len (s : List UInt8) : (quoteL s).length ≤ 6 * s.length + 2 := by
  have := quoteF_len s
  simp only [quoteL, List.length_append, List.length_singleton]; omega

/-- A byte's cell. -/
def byE (c : UInt8) : List Value := [.int .u8 c.toNat]
/-- A row of bytes of the call's own. -/
def OwnBy (w : World) (base : Nat) (v : Value) (l : List UInt8) : Prop := w.ownsRow base 5 1 v l.length (l.flatMap byE)
theorem info_by : (Tryz.prog.info? 5).map (fun i => (i.zero, i.size, i.bytes)) = some (some (.int .u8 0), 1, 1) := by kernel_rfl
/-- Bytes of a literal are appended. -/
theorem app_by {w : World} {base : Nat} {v : Value} {l : List UInt8} (hown : OwnBy w base v l) (m : List UInt8) {b n c : Nat} (hn : n = m.length) (hb : w.heap[b]? = some (.cells (m.flatMap byE).toArray 5 (0, 0))) (hl : l.length + m.length ≤ 16777216) (hbase : base ≤ w.heap.size) :
    ∃ v' w', (∀ ty, (Builtin.append_ #[71, 71] ty #[v, .slice (some ⟨b, 0, none⟩) n c]).run Tryz.prog w = .ok v' w') ∧ OwnBy w' base v' (l ++ m) ∧ w.grownBy w' v.ownBlock ∧ (v'.ownBlock = v.ownBlock ∨ v'.ownBlock = some w.heap.size) := by
  subst hn
  obtain ⟨i0, hi0, hz0, hz1, hz2⟩ := info_parts info_by
  obtain ⟨v', w', h1, h2, h3, h4⟩ := run_append_sl (P := Tryz.prog) w byE base 71 0 5 i0 _ 1 1 Tryz.underlying71 hi0 hz0 hz1 hz2 rfl (by omega) (by omega) v l.length _ hown b (b + 1) _ m c (lit_sl (enc := byE) (size := 1) (fun _ => rfl) hb) (fun _ => rfl) (fun x u hu => by simp [byE] at hu; subst hu; rfl) hl hbase
  exact ⟨v', w', fun ty => h1, by simp only [OwnBy, List.length_append, List.flatMap_append]; exact h2, h3, h4⟩
theorem conv_by {w : World} {base : Nat} {a : Option Addr} {n c : Nat} {l : List UInt8} (hown : OwnBy w base (.slice a n c) l) (h0 : 0 < l.length) (hn : n = l.length) : (convert 71 9 (.slice a n c)).run Tryz.prog w = .ok (.string ⟨l.toArray⟩) w := by
  subst hn
  obtain ⟨b, off, rfl, -, -, -, h⟩ := own_sl (enc := byE) (size := 1) (fun _ => rfl) hown h0
  exact run_convert_bytes_back (P := Tryz.prog) w 71 9 5 ⟨b, off, none⟩ c l Tryz.underlying71 Tryz.underlying5 Tryz.underlying9 (fun j hj => by
    have := h j l[j] (List.getElem?_eq_getElem hj) 0 _ rfl
    rw [add_none]
    simpa using this)

set_option maxRecDepth 100000 in
set_option maxHeartbeats 3200000 in
theorem write_c (w : World) (s : ByteArray) (hs : s.size ≤ 1048576) (hS : Shorts w) : Calls Tryz.prog 102 #[.string s] w (Ret (.string ⟨(quoteL s.data.toList).toArray⟩) w) := by
  have hcv := Lib.run_convert_string_bytes (P := Tryz.prog) (w.alloc (.cells #[.int .u8 34] 5)) 9 71 5 s (u := .string) Tryz.underlying9 Tryz.underlying71 Tryz.underlying5
  have hB : ∀ j, j < s.size → (Lib.bytesWorld (w.alloc (.cells #[.int .u8 34] 5)) 5 s).cell? ⟨w.heap.size + 1, j, none⟩ = some (.int .u8 (s.data.toList.getD j 0).toNat) := fun j hj => by
    have := Lib.bytesWorld_cell (w.alloc (.cells #[.int .u8 34] 5)) 5 s j hj
    rwa [World.size_alloc] at this
  have hbw1 : Below (w.heap.size + 1) (w.alloc (.cells #[.int .u8 34] 5)) (Lib.bytesWorld (w.alloc (.cells #[.int .u8 34] 5)) 5 s) := Go.Joins.below_bytesWorld _ _ _ _ (by simp)
  have hsz1 : (Lib.bytesWorld (w.alloc (.cells #[.int .u8 34] 5)) 5 s).heap.size = w.heap.size + 2 := by rw [Lib.bytesWorld_size, World.size_alloc]
  have hown0 : OwnBy (w.alloc (.cells #[.int .u8 34] 5)) w.heap.size (.slice (some ⟨w.heap.size, 0, none⟩) 1 1) [34] := World.ownsRow_lit w #[.int .u8 34] 1 (Nat.le_refl _) (by simp [maxLen]) rfl
  have hown1 : OwnBy (Lib.bytesWorld (w.alloc (.cells #[.int .u8 34] 5)) 5 s) w.heap.size (.slice (some ⟨w.heap.size, 0, none⟩) 1 1) [34] := own_below hown0 (by rw [World.size_alloc]; exact hbw1)
  have hbw0 : Below w.heap.size w (Lib.bytesWorld (w.alloc (.cells #[.int .u8 34] 5)) 5 s) := ((Below.refl _ _).alloc (Nat.le_refl _) _).trans (hbw1.mono (by omega))
  rw [World.size_alloc] at hcv
  obtain ⟨W1, hW1⟩ : ∃ W1, W1 = Lib.bytesWorld (w.alloc (.cells #[.int .u8 34] 5)) 5 s := ⟨_, rfl⟩
  rw [← hW1] at hcv hB hbw0 hown1 hsz1
  clear hW1 hown0 hbw1
  have HZ := Lib.hid hsz1
  have HB := Lib.hid hB
  clear hsz1 hB
  go_enter Tryz.func102, Tryz.ntmps102
  go_wp2_with fail
  go_loopw [3, 5, 6, 11] (fun v _ _ i wr => ∃ (k : Nat) (g c : Nat), k ≤ s.size ∧ i = .int .i64 k ∧ v = .slice (some ⟨g, 0, none⟩) (1 + ((s.data.toList.take k).flatMap quoteB).length) c ∧ g ≠ w.heap.size + 1 ∧ OwnBy wr w.heap.size v ([34] ++ (s.data.toList.take k).flatMap quoteB) ∧
      (∀ j, j < s.size → wr.cell? ⟨w.heap.size + 1, j, none⟩ = some (.int .u8 (s.data.toList.getD j 0).toNat)) ∧ w.heap.size + 2 ≤ wr.heap.size ∧ Below w.heap.size w wr) (fun _ _ _ i _ => s.size - (intOf i).toNat)
  case atStart => exact ⟨0, w.heap.size, 1, Nat.zero_le _, rfl, rfl, by omega, hown1, HB.out, by rw [HZ.out]; exact Nat.le_refl _, hbw0⟩
  case round =>
    obtain ⟨k, g, cp, hk, rfl, rfl, hg, hown, hcs, hsz, hbw⟩ := hrel
    have HB := Lib.hid hcs
    have hql := quoteF_len (s.data.toList.take k)
    have hql2 : ((s.data.toList.take k).flatMap quoteB).length ≤ 6 * 1048576 := by
      have : (s.data.toList.take k).length ≤ k := List.length_take_le _ _
      omega
    clear hcs hcv hown1 hbw0 hql
    obtain ⟨out, hout⟩ : ∃ out, out = (s.data.toList.take k).flatMap quoteB := ⟨_, rfl⟩
    rw [← hout] at hown hql2 ⊢
    have HO := Lib.hid hout
    clear hout
    have arm : ∀ (W W' : World) (m : List UInt8) (t : Nat), Below wr.heap.size wr W → W' = W.alloc (.cells (m.flatMap byE).toArray 5) → m.length ≤ 6 → ∃ g' c' w', (∀ ty, (Builtin.append_ #[71, 71] ty #[.slice (some ⟨g, 0, none⟩) (1 + out.length) cp, .slice (some ⟨W.heap.size, 0, none⟩) m.length m.length]).run Tryz.prog W' = .ok (.slice (some ⟨g', 0, none⟩) (1 + (out.length + m.length)) c') w') ∧
        g' ≠ w.heap.size + 1 ∧ OwnBy w' w.heap.size (.slice (some ⟨g', 0, none⟩) (1 + (out.length + m.length)) c') ([34] ++ (out ++ m)) ∧ (∀ j, j < s.size → w'.cell? ⟨w.heap.size + 1, j, none⟩ = some (.int .u8 (s.data.toList.getD j 0).toNat)) ∧ w.heap.size + 2 ≤ w'.heap.size ∧ Below w.heap.size w w' := by
      intro W W' m t hW hW' hm
      subst hW'
      have hsW := hW.size
      have hsw := hbw.size
      have hown1 : OwnBy (W.alloc (.cells (m.flatMap byE).toArray 5)) w.heap.size _ _ := own_below hown (hW.alloc hsW _)
      have hsz' := World.size_alloc W (.cells (m.flatMap byE).toArray 5)
      have hgl := hown.lt g rfl
      obtain ⟨v', w', hrun, ho, hgr, hc⟩ := app_by hown1 m (b := W.heap.size) (n := m.length) (c := m.length) rfl (heap_alloc_new W _) (by simp; omega) (by omega)
      obtain ⟨g', c', hv, hg1, hg2⟩ := ho.form (by simp)
      have hn : (([34] ++ out) ++ m).length = 1 + (out.length + m.length) := by simp; omega
      rw [hn] at hv
      subst hv
      refine ⟨g', c', w', hrun, ?_, by simpa [OwnBy, Nat.add_assoc] using ho, fun j hj => ?_, ?_, ?_⟩
      · simp only [Value.ownBlock] at hc
        rcases hc with h | h
        · injection h with h; omega
        · injection h with h; omega
      · refine hgr.cell ((((hW.alloc hsW _).cell (p := ⟨w.heap.size + 1, j, none⟩) (by omega : w.heap.size + 1 < wr.heap.size)).trans (HB.out j hj) : _)) ?_
        simp only [Value.ownBlock]; intro e; injection e with e; exact hg e.symm
      · have := hgr.size; omega
      · exact ((hbw.trans (hW.mono hsw)).alloc (by omega) _).grown hgr (by omega) (fun k hk => by have hk' : g = k := Option.some.inj hk; omega)
    by_cases hlt : k < s.size
    · have hcell := HB.out k hlt
      rw [show s.data.toList.getD k 0 = s[k] by rw [List.getD_eq_getElem?_getD, List.getElem?_eq_getElem (by simpa using hlt)]; rfl] at hcell
      have hT := Lib.hid (show (s.data.toList.take (k + 1)).flatMap quoteB = out ++ quoteB s[k] by rw [HO.out, List.take_succ_eq_append_getElem (by simpa using hlt), List.flatMap_append]; simp; rfl)
      have hSw := hS.below hbw
      have HL := fun W h => Lib.hid (letter_c W s[k] h)
      have hlt' : (k : Int) < (s.size : Int) := by omega
      generalize hck : s[k] = ch at *
      have HQ := Lib.hid (show quoteB ch = if letterL ch ≠ 0 then [92, letterL ch] else if ch.toNat < 32 then [92, 117, 48, 48, hexd (ch.toNat / 16), hexd (ch.toNat % 16)] else [ch] from rfl)
      clear hck
      generalize quoteB ch = qc at *
      generalize letterL ch = lt at *
      by_cases h0 : lt = 0
      · have t0 : ((lt.toNat : Int) != 0) = false := by simp [h0]
        by_cases h32 : ch.toNat < 32
        · have t1 : decide ((ch.toNat : Int) < 32) = true := by simp; omega
          have hq := Lib.hid (show qc = [92, 117, 48, 48, hexd (ch.toNat / 16), hexd (ch.toNat % 16)] by rw [HQ.out, if_neg (by simp [h0]), if_pos h32])
          clear HQ h0
          go_wp2_with (go_at_call 124; refine (HL _ hSw).out.mono ?_; rintro e w1 ⟨rfl, hb1⟩)
          have e2 := h_and ch
          have e3 : ∀ w, (Instr.index 9 (.string ⟨#[48, 49, 50, 51, 52, 53, 54, 55, 56, 57, 97, 98, 99, 100, 101, 102]⟩) (.int .u8 ((ch.toNat : Int) / 16))).run Tryz.prog w = .ok (.int .u8 (hexd (ch.toNat / 16)).toNat) w := fun w => h_idx w (ch.toNat / 16) (by have := ch.toNat_lt; omega)
          have e4 : ∀ w, (Instr.index 9 (.string ⟨#[48, 49, 50, 51, 52, 53, 54, 55, 56, 57, 97, 98, 99, 100, 101, 102]⟩) (.int .u8 ((ch.toNat : Int) % 16))).run Tryz.prog w = .ok (.int .u8 (hexd (ch.toNat % 16)).toNat) w := fun w => h_idx w (ch.toNat % 16) (by omega)
          go_region_held3 (fun _ => True) (trivial) (first | (obtain ⟨g', c', w2, hrun, r1, r2, r3, r4, r5⟩ := arm w1.drew _ [92, 117, 48, 48, hexd (ch.toNat / 16), hexd (ch.toNat % 16)] 0 hb1.drew rfl (by simp); refine st_append (s := .tmp 31) (x := .tmp 38) rfl rfl (hrun _) ?_; clear hrun))
          all_goals
            go_wp2_with fail
            exact ⟨⟨k + 1, g', c', by omega, by go_num, by rw [hT.out, hq.out, List.length_append]; rfl, r1, by rw [hT.out, hq.out]; exact r2, r3, r4, r5⟩, by simp [intOf]; omega⟩
        · have t1 : decide ((ch.toNat : Int) < 32) = false := by simp; omega
          have hq := Lib.hid (show qc = [ch] by rw [HQ.out, if_neg (by simp [h0]), if_neg h32])
          clear HQ h0
          go_wp2_with (first
            | (go_at_call 124; refine (HL _ hSw).out.mono ?_; rintro e w1 ⟨rfl, hb1⟩)
            | (at_builtin
               obtain ⟨g', c', w2, hrun, r1, r2, r3, r4, r5⟩ := arm w1 _ [ch] 0 hb1 rfl (by simp)
               refine wl_append (s := .tmp 17) (x := .tmp 19) rfl rfl (hrun _) ?_
               clear hrun))
          exact ⟨⟨k + 1, g', c', by omega, by go_num, by rw [hT.out, hq.out, List.length_append]; rfl, r1, by rw [hT.out, hq.out]; exact r2, r3, r4, r5⟩, by simp [intOf]; omega⟩
      · have t0 : ((lt.toNat : Int) != 0) = true := by
          have : lt.toNat ≠ 0 := fun e => h0 (by rw [← UInt8.toNat_inj]; exact e)
          simp; exact_mod_cast this
        have hq := Lib.hid (show qc = [92, lt] by rw [HQ.out, if_pos h0])
        clear HQ h0
        go_wp2_with (first
          | (go_at_call 124; refine (HL _ hSw).out.mono ?_; rintro e w1 ⟨rfl, hb1⟩)
          | (at_builtin
             obtain ⟨g', c', w2, hrun, r1, r2, r3, r4, r5⟩ := arm w1 _ [92, lt] 0 hb1 rfl (by simp)
             refine wl_append (s := .tmp 24) (x := .tmp 26) rfl rfl (hrun _) ?_
             clear hrun))
        exact ⟨⟨k + 1, g', c', by omega, by go_num, by rw [hT.out, hq.out, List.length_append]; rfl, r1, by rw [hT.out, hq.out]; exact r2, r3, r4, r5⟩, by simp [intOf]; omega⟩
    · obtain rfl : k = s.size := by omega
      have hfin := Lib.hid (show quoteL s.data.toList = [34] ++ out ++ [34] by rw [quoteL, HO.out, List.take_of_length_le (by simp)])
      have hend : ∃ g' c' w', (∀ ty, (Builtin.append_ #[71, 71] ty #[.slice (some ⟨g, 0, none⟩) (1 + out.length) cp, .slice (some ⟨wr.heap.size, 0, none⟩) 1 1]).run Tryz.prog (wr.alloc (.cells #[.int .u8 34] 5)) = .ok (.slice (some ⟨g', 0, none⟩) (1 + (out.length + 1)) c') w') ∧
          (convert 71 9 (.slice (some ⟨g', 0, none⟩) (1 + (out.length + 1)) c')).run Tryz.prog w' = .ok (.string ⟨(quoteL s.data.toList).toArray⟩) w' ∧ Below w.heap.size w w' := by
        obtain ⟨g', c', w2, hrun, r1, r2, r3, r4, r5⟩ := arm wr _ [34] 0 (Below.refl _ _) rfl (by simp)
        exact ⟨g', c', w2, hrun, by rw [hfin.out]; exact conv_by (n := 1 + (out.length + 1)) r2 (by simp) (by simp; omega), r5⟩
      obtain ⟨g', c', w2, hrun, hcv, hb2⟩ := hend
      generalize quoteL s.data.toList = ql at *
      clear hown arm HB hfin HO hql2 hbw hsz
      go_wp2_with (at_builtin; refine wl_append (s := .tmp 41) (x := .tmp 42) rfl rfl (hrun _) ?_; clear hrun)
      go_ret
      exact ⟨rfl, hb2⟩
end Go.Proofs.YtjihepdjcbpgoaaGreatDoor
