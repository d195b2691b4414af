/-
  Two lists of numbers compared. Conditions: they lie in memory; one of them has at most 2^62 numbers.
-/
import Derived.Test.YtmhkacafilpliaaJN
import Derived.BigQuiet
namespace Go.Proofs.Ytmhkacafilpliaa
open Go.RowKit Go.Sort Go.Shelf

theorem nat_int (l : List Nat) {w : World} {lo hi : Nat} {a : Option Addr} (h : SlE natE 1 w lo hi a l) : SlE i64Z 1 w lo hi a (l.map fun n : Nat => (n : Int)) := fun hl => by
  rw [List.length_map] at hl
  obtain ⟨b, off, e, g1, g2, g3, g4⟩ := h hl
  refine ⟨b, off, e, g1, g2, g3, fun i x hx k u hk => ?_⟩
  rw [List.getElem?_map] at hx
  cases hli : l[i]? with
  | none => rw [hli] at hx; cases hx
  | some n =>
    rw [hli] at hx
    simp only [Option.map_some, Option.some.injEq] at hx
    subst hx
    exact g4 i n hli k u hk
theorem nat_cast_inj {l l' : List Nat} : (l.map fun n : Nat => (n : Int)) = (l'.map fun n : Nat => (n : Int)) ↔ l = l' := by
  constructor
  · intro h
    refine List.map_inj_right (f := fun n : Nat => (n : Int)) (fun a b h => ?_) |>.1 h
    exact Int.ofNat_inj.1 h
  · rintro rfl; rfl
theorem take_eq {α : Type} {l l' : List α} (hl : l.length = l'.length) (h : ∀ j, j < l.length → l[j]? = l'[j]?) : l = l' := by
  apply List.ext_getElem?
  intro j
  rcases Nat.lt_or_ge j l.length with hj | hj
  · exact h j hj
  · rw [List.getElem?_eq_none hj, List.getElem?_eq_none (by omega)]
set_option maxRecDepth 100000 in
set_option maxHeartbeats 3200000 in
theorem samenums_c (w : World) (a b : Option Addr) (ca cb : Nat) (l l' : List Int) (h : SlE i64Z 1 w 0 w.heap.size a l) (h' : SlE i64Z 1 w 0 w.heap.size b l') (hn : l.length ≤ 4611686018427387904) :
    Calls Try.prog 38 #[.slice a l.length ca, .slice b l'.length cb] w (Ret (.bool (decide (l = l'))) w) := by
  by_cases hl : l.length = l'.length
  · have hne : ((l.length : Int) != (l'.length : Int)) = false := by simp [hl]
    have HL := Lib.hid hl
    clear hl
    go_enter Try.func38, Try.ntmps38
    go_wp2_with fail
    go_loopw [5] (fun s5 wr => ∃ i : Nat, i ≤ l.length ∧ s5 = .int .i64 i ∧ Hid (∀ j, j < i → l[j]? = l'[j]?) ∧ Hid (Below w.heap.size w wr)) (fun s5 _ => l.length - (intOf s5).toNat)
    case atStart => exact ⟨0, Nat.zero_le _, rfl, Lib.hid (fun j h => by omega), Lib.hid (Below.refl _ _)⟩
    case round =>
      obtain ⟨i, hi, rfl, HE, HB⟩ := hrel
      by_cases hlt : i < l.length
      · have hL := HL.out
        have h1 : l[i]? = some l[i] := List.getElem?_eq_getElem hlt
        have h2 : l'[i]? = some l'[i] := List.getElem?_eq_getElem (by omega)
        have hlt1 : (i : Int) < (l.length : Int) := by omega
        have hlt2 : (i : Int) < (l'.length : Int) := by omega
        generalize l[i] = x at h1
        generalize l'[i] = y at h2
        obtain ⟨b1, o1, ea, -, -, hb1, hc1⟩ := int_at h h1
        obtain ⟨b2, o2, eb, -, -, hb2, hc2⟩ := int_at h' h2
        rw [← HB.out.cell (p := ⟨_, _, none⟩) hb1] at hc1
        rw [← HB.out.cell (p := ⟨_, _, none⟩) hb2] at hc2
        have hs1 : b1 < wr.heap.size := Nat.lt_of_lt_of_le hb1 HB.out.size
        have hs2 : b2 < wr.heap.size := Nat.lt_of_lt_of_le hb2 HB.out.size
        have HX := Lib.hid (And.intro h1 h2)
        have HEA := Lib.hid (And.intro ea eb)
        rw [ea, eb]
        clear h1 h2 hL ea eb h h'
        by_cases e : x = y
        · have hd : (x != y) = false := by simp [e]
          have HE2 := Lib.hid e
          clear e
          go_wp2_with fail
          go_quiet (fail)
          go_wp2_with fail
          refine ⟨⟨i + 1, by omega, by go_num, Lib.hid fun j hj => ?_, Lib.hid (by (repeat' first | exact HB.out | refine Below.drew ?_ | refine below_drewN ?_ _))⟩, by simp [intOf]; omega⟩
          rcases Nat.lt_or_ge j i with hh | hh
          · exact HE.out j hh
          · obtain rfl : j = i := by omega
            rw [HX.out.1, HX.out.2, HE2.out]
        · have hd : (x != y) = true := by simp [e]
          have hf : l ≠ l' := fun hh => e (by have := HX.out.1; rw [hh, HX.out.2] at this; injection this with this; exact this.symm)
          have HF := Lib.hid hf
          clear e hf
          go_wp2_with fail
          go_quiet (fail)
          go_wp2_with fail
          go_ret
          exact ⟨by rw [decide_eq_false HF.out]; rfl, by (repeat' first | exact HB.out | refine Below.drew ?_ | refine below_drewN ?_ _)⟩
      · obtain rfl : i = l.length := by omega
        go_wp2_with fail
        go_ret
        exact ⟨by rw [decide_eq_true (take_eq HL.out HE.out)]; rfl, HB.out⟩
  · have hne : ((l.length : Int) != (l'.length : Int)) = true := by simp; omega
    have hf : l ≠ l' := fun hh => hl (by rw [hh])
    have HF := Lib.hid hf
    clear hl hf h h'
    go_enter Try.func38, Try.ntmps38
    go_wp2_with fail
    go_ret
    exact ⟨by rw [decide_eq_false HF.out]; rfl, Below.refl _ _⟩
end Go.Proofs.Ytmhkacafilpliaa
