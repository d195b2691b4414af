/-
  The reference's show. Conditions: a text of bounded length, the place within the text.
-/
import Derived.Test.YtdapimjhjnbfdaaDoorR1
import Derived.Laws.IdiomStrings
namespace Go.Proofs.YtdapimjhjnbfdaaDoor
open Go.RowKit

def rshowV (n : Nat) : Option (List UInt8 × List UInt8) → Value
  | none => .tuple #[.string ⟨#[]⟩, .int .i64 0, .bool false]
  | some (o, t) => .tuple #[.string ⟨o.toArray⟩, .int .i64 ((n - t.length : Nat) : Int), .bool true]

theorem endB_true {c : UInt8} (h : endB c = true) : c.toNat = 47 ∨ c.toNat = 91 ∨ c.toNat = 93 ∨ c.toNat = 61 := by
  simp [endB] at h
  rcases h with ((h | h) | h) | h <;> simp [h]
theorem endB_false {c : UInt8} (h : endB c = false) : ((c.toNat : Int) == 47) = false ∧ ((c.toNat : Int) == 91) = false ∧ ((c.toNat : Int) == 93) = false ∧ ((c.toNat : Int) == 61) = false := by
  simp [endB] at h
  obtain ⟨⟨⟨h1, h2⟩, h3⟩, h4⟩ := h
  refine ⟨?_, ?_, ?_, ?_⟩ <;>
  · rw [beq_eq_false_iff_ne]
    intro e
    first
      | (apply h1; apply UInt8.toNat_inj.1; simp; omega)
      | (apply h2; apply UInt8.toNat_inj.1; simp; omega)
      | (apply h3; apply UInt8.toNat_inj.1; simp; omega)
      | (apply h4; apply UInt8.toNat_inj.1; simp; omega)
theorem bne_t {x c : Int} (h : (x == c) = false) : (x != c) = true := by simp [bne, h]
theorem bne_f {x c : Int} (h : (x == c) = true) : (x != c) = false := by simp [bne, h]
theorem hexI_lt (c : Nat) (h : c < 256) : -1 ≤ hexI c ∧ hexI c ≤ 15 := by
  unfold hexI
  split
  · omega
  · split <;> omega
theorem drop_cons_ba (s : ByteArray) (k : Nat) (h : k < s.size) : s.data.toList.drop k = s[k] :: s.data.toList.drop (k + 1) := List.drop_eq_getElem_cons (by simpa using h)

theorem conv_one {c : UInt8} (W : World) : (convert 84 9 (.slice (some ⟨W.heap.size, 0, none⟩) 1 1)).run Tryd.prog (W.alloc (.cells #[.int .u8 c.toNat] 5)).drew = .ok (.string ⟨#[c]⟩) (W.alloc (.cells #[.int .u8 c.toNat] 5)).drew :=
  run_convert_bytes_back (P := Tryd.prog) (W.alloc (.cells #[.int .u8 c.toNat] 5)).drew 84 9 5 ⟨W.heap.size, 0, none⟩ 1 [c] Tryd.underlying84 Tryd.underlying5 Tryd.underlying9
    (fun j hj => match j, hj with
      | 0, _ => by simp [Addr.add]
      | j + 1, hj => absurd hj (by simp))

set_option maxRecDepth 100000 in
set_option maxHeartbeats 3200000 in
theorem refshow_c (w : World) (s : ByteArray) (k0 : Nat) (hk0 : k0 ≤ s.size) (hs : s.size ≤ 1048576) :
    Calls Tryd.prog 53 #[.string s, .int .i64 k0] w (Ret (rshowV s.size (rshow (s.data.toList.drop k0))) w) := by
  go_enter Tryd.func53, Tryd.ntmps53
  go_wp2_with fail
  go_loopw [1, 7] (fun i o wr => ∃ (k : Nat) (out : List UInt8), k ≤ s.size ∧ i = .int .i64 k ∧ o = .string ⟨out.toArray⟩ ∧ out.length ≤ k ∧ rshow (s.data.toList.drop k0) = (rshow (s.data.toList.drop k)).map (fun p => (out ++ p.1, p.2)) ∧ Below w.heap.size w wr) (fun i _ _ => s.size - (intOf i).toNat)
  case atStart => exact ⟨k0, [], hk0, rfl, rfl, Nat.zero_le _, by simp, Below.refl _ _⟩
  case round =>
    obtain ⟨k, out, hk, rfl, rfl, hol, hr, hbw⟩ := hrel
    have HR := Lib.hid hr
    clear hr
    have hsz := hbw.size
    by_cases hlt : k < s.size
    · have hD := drop_cons_ba s k hlt
      have hlt' : (k : Int) < (s.size : Int) := by omega
      by_cases he : endB s[k] = true
      · have hfin := Lib.hid (show rshow (s.data.toList.drop k0) = some (out, s.data.toList.drop k) by rw [HR.out, hD, rshow.eq_def]; simp [he])
        have hlen : s.size - (s.data.toList.drop k).length = k := by simp; omega
        have hcs := endB_true he
        clear he hD
        rcases hcs with hc | hc | hc | hc
        · have g0 : ((s[k].toNat : Int) == 47) = true := by rw [hc]; rfl
          have b0 := bne_f g0
          clear hc
          go_wp2_with fail
          go_ret3
          exact ⟨by rw [hfin.out]; simp only [rshowV, hlen]; rfl, hbw⟩
        · have g0 : ((s[k].toNat : Int) == 47) = false := by rw [hc]; rfl
          have b0 := bne_t g0
          have g1 : ((s[k].toNat : Int) == 91) = true := by rw [hc]; rfl
          have b1 := bne_f g1
          clear hc
          go_wp2_with fail
          go_ret3
          exact ⟨by rw [hfin.out]; simp only [rshowV, hlen]; rfl, hbw⟩
        · have g0 : ((s[k].toNat : Int) == 47) = false := by rw [hc]; rfl
          have b0 := bne_t g0
          have g1 : ((s[k].toNat : Int) == 91) = false := by rw [hc]; rfl
          have b1 := bne_t g1
          have g2 : ((s[k].toNat : Int) == 93) = true := by rw [hc]; rfl
          have b2 := bne_f g2
          clear hc
          go_wp2_with fail
          go_ret3
          exact ⟨by rw [hfin.out]; simp only [rshowV, hlen]; rfl, hbw⟩
        · have g0 : ((s[k].toNat : Int) == 47) = false := by rw [hc]; rfl
          have b0 := bne_t g0
          have g1 : ((s[k].toNat : Int) == 91) = false := by rw [hc]; rfl
          have b1 := bne_t g1
          have g2 : ((s[k].toNat : Int) == 93) = false := by rw [hc]; rfl
          have b2 := bne_t g2
          have g3 : ((s[k].toNat : Int) == 61) = true := by rw [hc]; rfl
          have b3 := bne_f g3
          clear hc
          go_wp2_with fail
          go_ret3
          exact ⟨by rw [hfin.out]; simp only [rshowV, hlen]; rfl, hbw⟩
      · have he' : endB s[k] = false := by simpa using he
        obtain ⟨g0, g1, g2, g3⟩ := endB_false he'
        have b0 := bne_t g0
        have b1 := bne_t g1
        have b2 := bne_t g2
        have b3 := bne_t g3
        by_cases hp : s[k] = 37
        · have g4 : ((s[k].toNat : Int) == 37) = true := by rw [hp]; rfl
          have b4 := bne_f g4
          by_cases hl2 : k + 2 < s.size
          · have hD1 := drop_cons_ba s (k + 1) (by omega)
            have hD2 := drop_cons_ba s (k + 2) hl2
            obtain ⟨x1, e1⟩ : ∃ x, s[k + 1] = x := ⟨_, rfl⟩
            obtain ⟨x2, e2⟩ : ∃ x, s[k + 2] = x := ⟨_, rfl⟩
            rw [e1] at hD1
            rw [e2] at hD2
            have hb1 := hexI_lt x1.toNat (x1.toNat_lt)
            have hb2 := hexI_lt x2.toNat (x2.toNat_lt)
            have H1 := fun W => Lib.hid (hex_c W x1.toNat (x1.toNat_lt))
            have H2 := fun W => Lib.hid (hex_c W x2.toNat (x2.toNat_lt))
            have hd : decide ((s.size : Int) ≤ (k : Int) + 2) = false := by simp; omega
            by_cases hx : hexI x1.toNat < 0
            · have hfin := Lib.hid (show rshow (s.data.toList.drop k0) = none by rw [HR.out, hD, hD1, hD2, rshow, if_neg he, if_neg (by simp [hp]), if_pos (.inl hx)]; rfl)
              clear hD hD1 hD2 he he' hp
              have hx' : decide (hexI x1.toNat < 0) = true := by simp [hx]
              go_wp2_with (go_at_call 94; refine (H1 _).out.mono ?_; rintro e w2 ⟨rfl, rfl⟩)
              go_ret3
              exact ⟨by rw [hfin.out]; rfl, hbw⟩
            · have hx' : decide (hexI x1.toNat < 0) = false := by simp; omega
              by_cases hy : hexI x2.toNat < 0
              · have hfin := Lib.hid (show rshow (s.data.toList.drop k0) = none by rw [HR.out, hD, hD1, hD2, rshow, if_neg he, if_neg (by simp [hp]), if_pos (.inr hy)]; rfl)
                clear hD hD1 hD2 he he' hp
                have hy' : decide (hexI x2.toNat < 0) = true := by simp [hy]
                go_wp2_with (go_at_call 94; refine (hex_c _ _ (UInt8.toNat_lt _)).mono ?_; rintro e w2 ⟨rfl, rfl⟩)
                go_ret3
                exact ⟨by rw [hfin.out]; rfl, hbw⟩
              · have hy' : decide (hexI x2.toNat < 0) = false := by simp; omega
                have hfin := Lib.hid (show rshow (s.data.toList.drop k0) = (rshow (s.data.toList.drop (k + 3))).map (fun p => ((out ++ [UInt8.ofNat (16 * hexI x1.toNat + hexI x2.toNat).toNat]) ++ p.1, p.2)) by
                  rw [HR.out, hD, hD1, hD2, rshow, if_neg he, if_neg (by simp [hp]), if_neg (by omega)]
                  simp [Function.comp_def])
                clear hD hD1 hD2 he he' hp
                go_wp2_with (go_at_call 94; refine (hex_c _ _ (UInt8.toNat_lt _)).mono ?_; rintro e w2 ⟨rfl, rfl⟩)
                have m1 : IntKind.i64.wrap (16 * hexI x1.toNat) = 16 * hexI x1.toNat := IntWalk.i64_in _ (by omega)
                have m2 : IntKind.i64.wrap (16 * hexI x1.toNat + hexI x2.toNat) = 16 * hexI x1.toNat + hexI x2.toNat := IntWalk.i64_in _ (by omega)
                obtain ⟨c, hc⟩ : ∃ c : UInt8, c = UInt8.ofNat (16 * hexI x1.toNat + hexI x2.toNat).toNat := ⟨_, rfl⟩
                rw [← hc] at hfin
                have m3 : IntKind.u8.wrap (16 * hexI x1.toNat + hexI x2.toNat) = (c.toNat : Int) := by
                  rw [IntWalk.u8_in _ (by omega), hc]; simp; omega
                clear hc
                have m9 : ((k : Int) + 2).toNat = k + 2 := by omega
                have hcv := conv_one (c := c)
                have m4 : IntKind.i64.wrap ((k : Int) + 1) = (k : Int) + 1 := IntWalk.i64_in _ (by omega)
                have m5 : IntKind.i64.wrap ((k : Int) + 2) = (k : Int) + 2 := IntWalk.i64_in _ (by omega)
                have m6 : (0 : Int) ≤ (k : Int) + 1 ∧ (k : Int) + 1 < s.size := by omega
                have m7 : (0 : Int) ≤ (k : Int) + 2 ∧ (k : Int) + 2 < s.size := by omega
                have m8 : ¬ 9223372036854775807 < out.length + 1 := by omega
                go_region_with (first | (go_at_call 94; refine (hex_c _ _ (UInt8.toNat_lt _)).mono ?_; rintro e w5 ⟨rfl, rfl⟩))
                all_goals
                  go_wp2_with fail
                  exact ⟨⟨k + 3, out ++ [c], by omega, by go_num, by simp [ba_append], by simp; omega, hfin.out, (by repeat (first | exact hbw | exact Below.refl _ _ | refine Below.drew ?_ | refine Below.alloc ?_ (by first | omega | (simp; done) | (simp; omega)) _))⟩, by simp [intOf]; omega⟩
          · have hd : decide ((s.size : Int) ≤ (k : Int) + 2) = true := by simp; omega
            have hfin := Lib.hid (show rshow (s.data.toList.drop k0) = none by
              rw [HR.out, hD, rshow.eq_def]
              simp only [hp]
              have : (s.data.toList.drop (k + 1)).length < 2 := by simp; omega
              match s.data.toList.drop (k + 1), this with
              | [], _ => simp [show endB 37 = false from rfl]
              | [a], _ => simp [show endB 37 = false from rfl])
            clear he he' hp hD
            go_wp2_with fail
            go_ret3
            exact ⟨by rw [hfin.out]; rfl, hbw⟩
        · have g4 : ((s[k].toNat : Int) == 37) = false := by
            rw [beq_eq_false_iff_ne]; intro e; apply hp; apply UInt8.toNat_inj.1; simp; omega
          have b4 := bne_t g4
          have hfin := Lib.hid (show rshow (s.data.toList.drop k0) = (rshow (s.data.toList.drop (k + 1))).map (fun p => ((out ++ [s[k]]) ++ p.1, p.2)) by
            rw [HR.out, hD, rshow.eq_def]
            simp [he', hp, Function.comp_def])
          have hx := Lib.hid (ba_one s k hlt)
          clear he he' hp hD
          go_wp2_with fail
          exact ⟨⟨k + 1, out ++ [s[k]], by omega, by go_num, by rw [hx.out]; simp [ba_append], by simp; omega, hfin.out, hbw⟩, by simp [intOf]; omega⟩
    · have hfin := Lib.hid (show rshow (s.data.toList.drop k0) = some (out, []) by rw [HR.out, List.drop_of_length_le (by simp; omega)]; simp [rshow])
      have hlen : s.size - ([] : List UInt8).length = k := by simp; omega
      go_wp2_with fail
      go_ret3
      exact ⟨by rw [hfin.out]; simp only [rshowV, hlen]; rfl, hbw⟩
end Go.Proofs.YtdapimjhjnbfdaaDoor
