/-
  Library functions below a path's reading: strconv.ParseUint at two bytes and base 16, strconv.Atoi at every text, strings.Cut, strings.IndexAny at '/[' and at ']'. Conditions: texts of bounded length; strconv's two error variables hold errors.
-/
import Derived.Test.YtdapimjhjnbfdaaDoorQ6
import Derived.Lib.ConvBytes
import Derived.Lib.Walk
import Derived.Laws.Strings3
import Derived.Laws.Closers25
import Derived.Laws.Closers25b
import Derived.Laws.RangeAny
import Derived.Laws.Runes
import Derived.BigCall
import Derived.BigGuard
import Derived.Deep.LoopGhost
import Derived.Outline
import Derived.Shelf.Strconv.ErrVarAll
namespace Go.Proofs.YtdapimjhjnbfdaaDoor
open Go.RowKit

/-! ParseUint(s, 16, 8), s of two bytes -/
def hexFold : List UInt8 → Int → Option Int
  | [], n => some n
  | c :: r, n => if hexU c.toNat < 0 then none else hexFold r (n * 16 + hexU c.toNat)
theorem hexL : ∀ n : Fin 256, 0 ≤ bits BinOp.or IntKind.u8 (n.val : Int) 32 ∧ bits BinOp.or IntKind.u8 (n.val : Int) 32 ≤ 255 ∧ (¬ (48 ≤ n.val ∧ n.val ≤ 57) →
    ((97 ≤ bits BinOp.or IntKind.u8 (n.val : Int) 32 ∧ bits BinOp.or IntKind.u8 (n.val : Int) 32 ≤ 102) → hexU n.val = bits BinOp.or IntKind.u8 (n.val : Int) 32 - 87) ∧ (¬ (97 ≤ bits BinOp.or IntKind.u8 (n.val : Int) 32 ∧ bits BinOp.or IntKind.u8 (n.val : Int) 32 ≤ 102) → hexU n.val = -1)) := by decide +kernel
theorem hexU_dig {n : Nat} (h : 48 ≤ n ∧ n ≤ 57) : hexU n = (n : Int) - 48 := by unfold hexU; rw [if_pos h]
def puV (bs : List UInt8) : Value := match hexFold bs 0 with
  | none => .tuple #[.int .u64 0, .iface 177 (.int .i64 2)]
  | some n => .tuple #[.int .u64 n, .nilIface]

set_option maxHeartbeats 8000000 in
set_option maxRecDepth 100000 in
theorem puint_in (t : ByteArray) (h2 : t.size = 2) (w : World) :
    Calls Tryd.prog 123 #[.string t, .int .i64 16, .int .i64 8] w fun e w' => e = .returned (puV t.data.toList) ∧ w' = Lib.bytesWorld w 5 t := by
  have hemp : t.toList.isEmpty = false := by
    rw [← decide_eq_emptyBytes]
    exact decide_eq_false (fun h => by rw [h] at h2; cases h2)
  have hcv := Lib.run_convert_string_bytes (P := Tryd.prog) w 9 84 5 t (u := .string) Tryd.underlying9 Tryd.underlying84 Tryd.underlying5
  have hB : ∀ j, j < t.size → (Lib.bytesWorld w 5 t).cell? ⟨w.heap.size, j, none⟩ = some (.int .u8 (t.data.toList.getD j 0).toNat) := fun j hj => Lib.bytesWorld_cell w 5 t j hj
  obtain ⟨W1, hW1⟩ : ∃ W1, W1 = Lib.bytesWorld w 5 t := ⟨_, rfl⟩
  rw [← hW1] at hcv hB ⊢
  clear hW1
  obtain ⟨bs, hL⟩ : ∃ bs, bs = t.data.toList := ⟨_, rfl⟩
  have hLn : bs.length = t.size := by rw [hL, Lib.size_eq]
  rw [← hL] at hB ⊢
  clear hL
  obtain ⟨N, hN⟩ : ∃ N, N = t.size := ⟨_, rfl⟩
  rw [← hN] at hLn hB hcv h2
  have HN := Lib.hid hN
  have hmv : IntKind.u64.wrap (IntKind.u64.wrap 256 - 1) = 255 := by
    rw [IntKind.wrap_u64, IntKind.wrap_u64]
    decide
  have hN2 : N ≤ 2 := by omega
  have H2 := Lib.hid h2
  clear hN h2
  go_enter Tryd.func123, Tryd.ntmps123
  go_wp2
  go_loop [12, 13, 101] (fun vu vn vi => ∃ (k : Nat) (a : Int), vu = .bool false ∧ vn = .int .u64 a ∧ vi = .int .i64 k ∧ k ≤ N ∧ 0 ≤ a ∧ a ≤ 15 + 240 * (k - 1 : Nat) ∧ (k = 0 → a = 0) ∧ Hid (hexFold bs 0 = hexFold (bs.drop k) a))
    (fun _ _ vi => N - (intOf vi).toNat)
  case atStart => exact ⟨0, 0, rfl, rfl, rfl, by omega, by omega, by omega, fun _ => rfl, rfl⟩
  case round =>
    obtain ⟨k, a, rfl, rfl, rfl, hk, ha0, ha1, hz, hh⟩ := hrel
    have hdec := hh.out
    clear hh
    by_cases hkn : k < N
    · have hc := hB k hkn
      have hdrop : bs.drop k = bs[k]'(by omega) :: bs.drop (k + 1) := List.drop_eq_getElem_cons (by omega)
      have hget : bs.getD k 0 = bs[k]'(by omega) := by simp [List.getD, List.getElem?_eq_getElem (show k < bs.length by omega)]
      rw [hdrop] at hdec
      rw [hget] at hc
      generalize bs[k]'(by omega) = c at hc hdec
      have hc256 : c.toNat < 256 := c.toNat_lt
      obtain ⟨l0, l1, l2⟩ := hexL ⟨c.toNat, hc256⟩
      simp only at l0 l1 l2
      have ha2 : a ≤ 15 := by omega
      have HZ := Lib.hid (show k < 2 ∧ (k = 0 → a = 0) from ⟨by omega, hz⟩)
      clear hB hdrop hget ha1 hz
      by_cases hdig : 48 ≤ c.toNat ∧ c.toNat ≤ 57
      · have hU := hexU_dig hdig
        obtain ⟨hd0, hd1⟩ := hdig
        have HF := Lib.hid (show hexFold bs 0 = hexFold (bs.drop (k + 1)) (a * 16 + ((c.toNat : Int) - 48)) by rw [hdec, hexFold, if_neg (by omega), hU])
        clear hdec hU l2
        go_wp2
        refine ⟨⟨k + 1, a * 16 + ((c.toNat : Int) - 48), rfl, (by first | rfl | (congr 1; omega)), (by first | rfl | (congr 1; omega)), by omega, by omega, ?_, fun h => by omega, HF⟩, by simp [intOf]; omega⟩
        obtain ⟨z1, z2⟩ := HZ.out
        by_cases h0 : k = 0
        · have := z2 h0; omega
        · omega
      · have l3 := (l2 hdig).1
        have l4 := (l2 hdig).2
        clear l2
        have hnd : ¬ ((48 : Int) ≤ c.toNat ∧ (c.toNat : Int) ≤ 57) := by omega
        have hlow := fun W => Lib.hid (Tryd.internal_strconv_lower (c.toNat : Int) W)
        have hl95 : (c.toNat : Int) = 95 → bits BinOp.or IntKind.u8 (c.toNat : Int) 32 = 127 := fun h => by rw [h]; decide
        generalize bits BinOp.or IntKind.u8 (c.toNat : Int) 32 = L at *
        have e95 : bits BinOp.or IntKind.u8 95 32 = 127 := by decide
        have h95 : (c.toNat : Int) = 95 → L = 127 := hl95
        by_cases hlt : 97 ≤ L ∧ L ≤ 102
        · have hU := l3 hlt
          obtain ⟨b0, b1⟩ := hlt
          have HF := Lib.hid (show hexFold bs 0 = hexFold (bs.drop (k + 1)) (a * 16 + (L - 87)) by rw [hdec, hexFold, if_neg (by omega), hU])
          clear hdec hU l3 l4 hdig
          have hne : ((c.toNat : Int) == 95) = false := by rw [beq_eq_false_iff_ne]; intro h; have := h95 h; omega
          clear h95 hl95
          have e1 : IntKind.u8.wrap (L - 97) = L - 97 := IntWalk.u8_in _ (by omega)
          have e2 : IntKind.u8.wrap (L - 97 + 10) = L - 87 := by rw [IntWalk.u8_in _ (by omega)]; omega
          go_wp2_with (go_at_call 147; refine (hlow _).out.mono ?_; rintro e w' ⟨rfl, rfl⟩)
          all_goals
            obtain ⟨z1, z2⟩ := HZ.out
            refine ⟨⟨k + 1, a * 16 + (L - 87), rfl, (by first | rfl | (congr 1; omega)), (by first | rfl | (congr 1; omega)), by omega, by omega, ?_, fun h => by omega, HF⟩, by simp [intOf]; omega⟩
            by_cases h0 : k = 0
            · have := z2 h0; omega
            · omega
        · have hU := l4 hlt
          have HF := Lib.hid (show puV bs = .tuple #[.int .u64 0, .iface 177 (.int .i64 2)] by rw [puV, hdec, hexFold, if_pos (by omega)])
          clear hdec hU l3 l4 hdig
          by_cases hl2 : 97 ≤ L ∧ L ≤ 122
          · obtain ⟨b0, b1⟩ := hl2
            have hne : ((c.toNat : Int) == 95) = false := by rw [beq_eq_false_iff_ne]; intro h; have := h95 h; omega
            clear h95 hl95
            have b2 : 103 ≤ L := by omega
            have e1 : IntKind.u8.wrap (L - 97) = L - 97 := IntWalk.u8_in _ (by omega)
            have e2 : IntKind.u8.wrap (L - 97 + 10) = L - 87 := by rw [IntWalk.u8_in _ (by omega)]; omega
            clear hlt
            go_wp2_with (go_at_call 147; refine (hlow _).out.mono ?_; rintro e w' ⟨rfl, rfl⟩)
            all_goals
              go_ret2
              exact ⟨by rw [HF.out]; rfl, rfl⟩
          · clear hlt
            by_cases h9 : (c.toNat : Int) = 95
            · have hyes : ((c.toNat : Int) == 95) = true := by simp [h9]
              have hL := h95 h9
              clear h95 hl95 h9
              subst hL
              go_wp2_with (go_at_call 147; refine (hlow _).out.mono ?_; rintro e w' ⟨rfl, rfl⟩)
              all_goals
                go_ret2
                exact ⟨by rw [HF.out]; rfl, rfl⟩
            · have hne : ((c.toNat : Int) == 95) = false := by simp [h9]
              clear h95 hl95 h9
              go_wp2_with (go_at_call 147; refine (hlow _).out.mono ?_; rintro e w' ⟨rfl, rfl⟩)
              all_goals
                go_ret2
                exact ⟨by rw [HF.out]; rfl, rfl⟩
    · have hkk : k = N := by omega
      have HF := Lib.hid (show hexFold bs 0 = some a by rw [hdec, List.drop_eq_nil_of_le (by omega), hexFold])
      clear hdec
      go_wp2
      go_ret2
      have hv : puV bs = .tuple #[.int .u64 a, .nilIface] := by simp only [puV, HF.out]
      exact ⟨by rw [hv]; rfl, rfl⟩
end Go.Proofs.YtdapimjhjnbfdaaDoor
