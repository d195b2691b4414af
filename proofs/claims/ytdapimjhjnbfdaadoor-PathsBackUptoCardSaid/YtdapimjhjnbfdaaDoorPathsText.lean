/-
  The walk of inarchlaw16.PathsText: it answers true, and nothing that was there turns. Conditions: the arguments read as data with bounded lengths; the library's variables hold what they are laid to hold.
-/
import Derived.Test.YtdapimjhjnbfdaaDoorQ7
namespace Go.Proofs.YtdapimjhjnbfdaaDoor
open Go.RowKit

theorem parse_both (l : List UInt8) : ∃ (p : List St) (b : Bool), p.length ≤ 512 ∧
    (∀ e w w', ParsePost l w e w' → Below w.heap.size w w' ∧ ∃ a, e = .returned (.tuple #[.slice a p.length p.length, .bool b]) ∧ OwnC w' w.heap.size 25 4 a p.length p.length (p.flatMap St.enc)) ∧
    (∀ e w w', RParsePost l w e w' → Below w.heap.size w w' ∧ ∃ a cap, e = .returned (.tuple #[.slice a p.length cap, .bool b]) ∧ Sts w' w.heap.size w'.heap.size a p) := by
  have hsame := parse_same l
  cases hp : progParse l with
  | none =>
    rw [hp] at hsame
    refine ⟨[], false, by simp, fun e w w' h => ⟨h.1, ?_⟩, fun e w w' h => ⟨h.1, ?_⟩⟩
    · rcases h.2 with ⟨_, he⟩ | ⟨p, a, h2, _⟩
      · exact ⟨none, he, rfl, Nat.le_refl _, fun h => absurd h (by simp)⟩
      · rw [hp] at h2; cases h2
    · rcases h.2 with ⟨_, he⟩ | ⟨p, a, cap, h2, _⟩
      · exact ⟨none, 0, he, SlE.nil⟩
      · rw [← hsame] at h2; cases h2
  | some q =>
    rw [hp] at hsame
    have hq := (mayL_iff.1 (prog_some hp).1).1
    refine ⟨q, true, hq, fun e w w' h => ⟨h.1, ?_⟩, fun e w w' h => ⟨h.1, ?_⟩⟩
    · rcases h.2 with ⟨h2, _⟩ | ⟨p, a, h2, he, ho⟩
      · rw [hp] at h2; cases h2
      · rw [hp] at h2; injection h2 with h2; subst h2; exact ⟨a, he, ho⟩
    · rcases h.2 with ⟨h2, _⟩ | ⟨p, a, cap, h2, he, ho⟩
      · rw [← hsame] at h2; cases h2
      · rw [← hsame] at h2; injection h2 with h2; subst h2; exact ⟨a, cap, he, ho⟩
theorem ownC_sts {w : World} {e base : Nat} {a : Option Addr} {l : List St} (h : OwnC w base e 4 a l.length l.length (l.flatMap St.enc)) : Sts w 0 w.heap.size a l := fun hl => by
  obtain ⟨g, cur, e1, hb, hh, h3, h4⟩ := h.2.2 hl
  have hlt := lt_of_block hh
  refine ⟨g, 0, e1, Nat.zero_le _, hlt, hlt, fun i x hx j u hu => ?_⟩
  have hj : j < 4 := by rw [← St.enc_len x]; exact (List.getElem?_eq_some_iff.1 hu).1
  have hi : i < l.length := (List.getElem?_eq_some_iff.1 hx).1
  have e2 : w.cell? ⟨g, 0 + i * 4 + j, none⟩ = (l.flatMap St.enc)[i * 4 + j]? := by
    rw [← h4, List.getElem?_take, if_pos (by omega)]
    simp [World.cell?, hh]
  rw [e2, flat_get St.enc_len l i j x hx hj, hu]

def SpoilAt (w : World) (base hi n : Nat) (a : Option Addr) : Prop := 0 < n → ∃ g cur, a = some ⟨g, 0, none⟩ ∧ base ≤ g ∧ g < hi ∧ w.heap[g]? = some (.cells cur 25 (0, 0)) ∧ n * 4 ≤ cur.size
theorem SpoilAt.step {w w' : World} {base hi n : Nat} {a : Option Addr} (h : SpoilAt w base hi n a) (hb : Below w.heap.size w w') : SpoilAt w' base hi n a := fun hn => by
  obtain ⟨g, cur, e, h1, h1', h2, h3⟩ := h hn
  exact ⟨g, cur, e, h1, h1', blk_step h2 hb, h3⟩

set_option maxRecDepth 100000 in
set_option maxHeartbeats 4000000 in
theorem pathsText (w : World) (a : Option Addr) (ca : Nat) (l : List St) (s : ByteArray) (ha : Sts w 0 w.heap.size a l) (fl : Fit2 l) (ht : total l ≤ 1048576) (hs : s.size ≤ 1048576) (hca : l.length ≤ ca) (hp : Pow w) (he : Errs w) (hm : MaxL w) :
    Calls Tryd.prog 4 #[.slice a l.length ca, .string s] w (Ret (.bool true) w) := by
  have hl1 := fl.1.1
  have hk : ∀ s ∈ l, 0 ≤ s.k := fun s hs => (fl.1.2 s hs).2.2.1
  obtain ⟨p, b, hp512, hP, hR⟩ := parse_both s.data.toList
  have hP := Lib.hid hP
  have hR := Lib.hid hR
  go_enter Tryd.func4, Tryd.ntmps4
  go_wp2_with fail
  refine (great16 _ _ _ _ ha fl.1).mono ?_
  rintro e w1 ⟨r1, rfl, hb1⟩
  have L0 := fun W (h : Below w.heap.size w W) => Lib.hid (lives16 W (hp.below h))
  cases r1
  · by_cases h2000 : 2000 < s.size
    · have h2' : decide ((2000 : Int) < (s.size : Int)) = true := by simp; omega
      clear h2000
      go_wp2_with (go_at_call 11; refine (L0 _ hb1).out.mono ?_; rintro e w2 ⟨rfl, hb2⟩)
      go_ret
      exact ⟨rfl, below_via hb1 hb2⟩
    · have h2' : decide ((2000 : Int) < (s.size : Int)) = false := by simp; omega
      clear h2000
      go_wp2_with fail
      refine (twin16 _ _ _ _ (ha.up hb1) hl1).mono ?_
      rintro e w2 ⟨gx, capx, rfl, hgx, hcx, hox, hb2'⟩
      have hb2 := below_via hb1 hb2'
      go_wp2_with fail
      refine (parse_c w2 s hs (he.below hb2) (hp.below hb2) (hm.below hb2)).mono ?_
      rintro e w3 hpp
      obtain ⟨hb3', q, rfl, hoq⟩ := hP.out _ _ _ hpp
      clear hpp
      have hb3 := below_via hb2 hb3'
      go_wp2_with fail
      refine (refparse_c w3 s hs).mono ?_
      rintro e w4 hrr
      obtain ⟨hb4', r, capr, rfl, hsr⟩ := hR.out _ _ _ hrr
      clear hrr
      have hb4 := below_via hb3 hb4'
      have hb24 : Below w2.heap.size w2 w4 := hb3'.trans (hb4'.mono hb3'.size)
      have sx : Sts w2 0 w2.heap.size (some ⟨gx, 0, none⟩) l := by have := ((own_sl St.enc_len hox).widen (Nat.zero_le _) (Nat.le_refl _)).take l.length; rwa [List.take_left'] at this; rfl
      have sx4 := sx.up hb24
      have sa4 := ha.up hb4
      have sq4 := (ownC_sts hoq).up hb4'
      have hox4 := own_below hox hb24
      have hq : SpoilAt w3 w2.heap.size w3.heap.size p.length q := fun hn => by
        obtain ⟨g, cur, e1, h1, h2, h3, _⟩ := hoq.2.2 hn
        exact ⟨g, cur, e1, h1, lt_of_block h2, h2, h3⟩
      have hq4 := Lib.hid (hq.step hb4')
      have C1 := fun W (h : Below w4.heap.size w4 W) => Lib.hid (may16 W (some ⟨gx, 0, none⟩) capx l (sx4.up h) hl1)
      have C2 := fun W (h : Below w4.heap.size w4 W) => Lib.hid (refmay16 W a ca l (sa4.up h) hl1 hk)
      have C3 := fun W (h : Below w4.heap.size w4 W) => Lib.hid (text16 W (some ⟨gx, 0, none⟩) capx l (sx4.up h) fl ht (hp.below (below_via hb4 h)))
      have C4 := fun W (h : Below w4.heap.size w4 W) => Lib.hid (reftext16 W a ca l (sa4.up h) fl ht hk)
      have C5 := fun W (h : Below w4.heap.size w4 W) => Lib.hid (same16 W q r p.length capr p p (sq4.up h) ((hsr.widen (Nat.zero_le _) (Nat.le_refl _)).up h) (by omega) (by omega))
      have C6 := fun W (h : Below w4.heap.size w4 W) => Lib.hid (left16 W gx capx a ca l _ (own_below hox4 h) (sa4.up h) hl1 (by omega))
      simp only [decide_true] at C5
      have hsr4 := Lib.hid hsr
      clear sx sx4 sa4 sq4 hox4 hq hoq hox hsr hcx hgx ha
      go_wp2_with (first
        | (go_at_call 21; refine (C1 _ (Below.refl _ _)).out.mono ?_; rintro e w5 ⟨rfl, hb5⟩)
        | (go_at_call 22; refine (C2 _ hb5).out.mono ?_; rintro e w6 ⟨rfl, hb6'⟩; have hb6 := hb5.trans (hb6'.mono hb5.size))
        | (go_at_call 23; refine (C3 _ hb6).out.mono ?_; rintro e w7 ⟨rfl, hb7'⟩; have hb7 := hb6.trans (hb7'.mono hb6.size))
        | (go_at_call 24; refine (C4 _ hb7).out.mono ?_; rintro e w8 ⟨rfl, hb8'⟩; have hb8 := hb7.trans (hb8'.mono hb7.size))
        | (go_at_call 13; refine (C5 _ hb8).out.mono ?_; rintro e w9 ⟨rfl, hb9'⟩; have hb9 := hb8.trans (hb9'.mono hb8.size))
        | (go_at_call 18; refine (C6 _ hb9).out.mono ?_; rintro e w10 ⟨rfl, hb10'⟩; have hb10 := hb9.trans (hb10'.mono hb9.size)))
      clear C1 C2 C3 C4 C5 C6
      have hz10 : w4.heap.size ≤ w10.heap.size := hb10.size
      go_loopw [10] (fun i wr => ∃ k : Nat, k ≤ p.length ∧ i = .int .i64 k ∧ SpoilAt wr w2.heap.size w3.heap.size p.length q ∧ Sts wr w3.heap.size wr.heap.size r p ∧ Below w2.heap.size w2 wr) (fun i _ => p.length - (intOf i).toNat)
      case atStart => exact ⟨0, Nat.zero_le _, rfl, hq4.out.step hb10, (hsr4.out.below' hb10).clamp, hb24.trans (hb10.mono hb24.size)⟩
      case round =>
        obtain ⟨k, hkp, rfl, hsp, hsr2, hbw⟩ := hrel
        by_cases hlt : k < p.length
        · obtain ⟨g, cur, rfl, hg1, hg2, hcur, hsz⟩ := hsp (by omega)
          have hlt' : (k : Int) < (p.length : Int) := by omega
          have hck : wr.cell? ⟨g, k * 4 + 1, none⟩ = some (cur[k * 4 + 1]'(by omega)) := by simp [World.cell?, hcur]
          have hfz : wr.frozen? ⟨g, k * 4 + 1, none⟩ = false := by simp [World.frozen?, hcur]
          have hgz := lt_of_block hcur
          have HC := Lib.hid hcur
          have HR2 := Lib.hid hsr2
          clear hcur hsp hsr2
          generalize cur[k * 4 + 1] = u at hck
          go_wp2_with fail
          refine ⟨⟨k + 1, by omega, by go_num, fun _ => ⟨g, cur.setIfInBounds (k * 4 + 1) (.string ⟨#[115, 112, 111, 105, 108, 116]⟩), rfl, hg1, hg2, ?_, by simpa using hsz⟩, ?_, hbw.setCell (p := ⟨g, k * 4 + 1, none⟩) hg1 _⟩, by simp [intOf]; omega⟩
          · simp [World.setCell, Array.getElem?_modify, HC.out]
          · have := HR2.out.keep (w' := wr.setCell ⟨g, k * 4 + 1, none⟩ (.string ⟨#[115, 112, 111, 105, 108, 116]⟩)) (by simp) (fun j h1 _ _ => Below.heap_setCell _ _ _ _ (by show j ≠ g; omega))
            simpa using this
        · have hbz := hb2.trans (hbw.mono hb2.size)
          have HP2 := Lib.hid (parse_c wr s hs (he.below hbz) (hp.below hbz) (hm.below hbz))
          have hr2 := Lib.hid hsr2
          clear hsp hsr2
          go_wp2_with fail
          refine HP2.out.mono ?_
          rintro e w11 hpp
          obtain ⟨hb11, q2, rfl, hoq2⟩ := hP.out _ _ _ hpp
          clear hpp
          have C7 := fun W (h : Below w11.heap.size w11 W) => Lib.hid (same16 W q2 r p.length capr p p ((ownC_sts hoq2).up h) (((hr2.out.widen (Nat.zero_le _) (Nat.le_refl _)).up hb11).up h) (by omega) (by omega))
          simp only [decide_true] at C7
          have hbE := below_via hbz hb11
          clear hoq2
          go_wp2_with (first
            | (go_at_call 13; refine (C7 _ (Below.refl _ _)).out.mono ?_; rintro e w12 ⟨rfl, hb12⟩; have hbF := below_via hbE hb12)
            | (go_at_call 11; refine (L0 _ hbF).out.mono ?_; rintro e w13 ⟨rfl, hb13⟩; have hbG := below_via hbF hb13))
          go_ret
          exact ⟨rfl, hbG⟩
  · go_wp2_with (go_at_call 11; refine (L0 _ hb1).out.mono ?_; rintro e w2 ⟨rfl, hb2⟩)
    go_ret
    exact ⟨rfl, below_via hb1 hb2⟩
end Go.Proofs.YtdapimjhjnbfdaaDoor
