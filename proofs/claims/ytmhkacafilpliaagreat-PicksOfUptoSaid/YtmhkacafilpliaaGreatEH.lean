/-
  Chapter 20: edits.Within, and the law's small words: num, list, entry. Conditions: the values lie in memory, their weights are bounded.
-/
import Derived.Test.YtmhkacafilpliaaGreatEG
import Derived.Test.YtmhkacafilpliaaGreatED
namespace Go.Proofs.YtmhkacafilpliaaGreat
open Go.RowKit Go.Sort Go.Shelf Go.BigFrame

/-- What edits.Within answers. -/
def withinI (a b : Val) (most : Int) : Bool := farI a b != -1 && decide (farI a b ≤ most)
set_option maxRecDepth 100000 in
set_option maxHeartbeats 3200000 in
theorem within20_c (w : World) (x y : AV) (most : Int) (hx : Rd w x) (hy : Rd w y) (hwx : x.w ≤ 1048576) (hwy : y.w ≤ 1048576) : Calls Tryz.prog 54 #[x.val, y.val, .int .i64 most] w (Ret (.bool (withinI x.v y.v most)) w) := by
  have hb0 := fun (o1 o2 : Obj) => ((Below.refl w.heap.size w).alloc (Nat.le_refl _) o1).alloc (by simp) o2
  have HF := Lib.hid (far_c ((w.alloc (.cells #[.int .u8 x.k, .string x.t, .slice x.la x.l.length x.lc, .slice x.ka x.ks.length x.kc] 26)).alloc (.cells #[.int .u8 y.k, .string y.t, .slice y.la y.l.length y.lc, .slice y.ka y.ks.length y.kc] 26)) x y (hx.up (hb0 _ _)) (hy.up (hb0 _ _)) hwx hwy)
  obtain ⟨k, hk⟩ : ∃ k, k = farI x.v y.v := ⟨_, rfl⟩
  rw [← hk] at HF
  have hwi : withinI x.v y.v most = (k != -1 && decide (k ≤ most)) := by rw [hk]; rfl
  rw [hwi]
  clear hk hwi hx hy
  go_enter Tryz.func54, Tryz.ntmps54
  go_wp2_with (go_at_call 55; (with_reducible refine HF.out.mono ?_); rintro e w1 ⟨rfl, hb1⟩)
  all_goals go_ret
  all_goals refine ⟨?_, below_via (hb0 _ _) hb1⟩
  all_goals first | rfl | (rename_i hk1; rw [hk1]; rfl)
/-- A value that lies in memory. -/
def GotV (v : Val) (w : World) (e : Ending) (w' : World) : Prop := ∃ y : AV, e = .returned y.val ∧ y.v = v ∧ Rd w' y ∧ Below w.heap.size w w'
def numV (s : ByteArray) : Val := ⟨4, s, [], []⟩
def entV (s : ByteArray) (v : Val) : Val := ⟨8, ⟨#[]⟩, [v], [s]⟩
theorem listV_of (B n : Nat) (ys : List AV) : (AV.v ⟨7, ⟨#[]⟩, some ⟨B, 0, none⟩, n, ys, none, 0, []⟩) = listV (ys.map AV.v) := by rw [AV.v_eq]; rfl
/-- The distance, reckoned. -/
def farE : Nat → Fo → Fo → Nat
  | 0, _, _ => 0
  | _ + 1, .nil, G => G.size
  | _ + 1, .cons x k r, .nil => (Fo.cons x k r).size
  | n + 1, .cons x k r, .cons y l s => min (min (farE n (k.app r) (.cons y l s)) (farE n (.cons x k r) (l.app s)) + 1) (farE n k l + farE n r s + rel x y)
theorem farE_eq : ∀ (n : Nat) (F G : Fo), F.size + G.size < n → farE n F G = far F G
  | 0, _, _, h => absurd h (by omega)
  | n + 1, .nil, G, _ => by rw [far_nil]; rfl
  | n + 1, .cons x k r, .nil, _ => by rw [far_nil']; rfl
  | n + 1, .cons x k r, .cons y l s, h => by
    simp only [Fo.size] at h
    rw [far_cons, farE, farE_eq n (k.app r) (.cons y l s) (by simp only [Fo.size, Fo.size_app]; omega), farE_eq n (.cons x k r) (l.app s) (by simp only [Fo.size, Fo.size_app]; omega), farE_eq n k l (by omega), farE_eq n r s (by omega)]
theorem numV_within {s : ByteArray} (h : s.toList ≠ []) (n : Nat) : (numV s).within n = true := by
  refine within_up 0 n _ (by omega) ?_
  rw [Val.within_0]; simp [numV, Val.shape, h]
theorem entV_within {s : ByteArray} {v : Val} {n : Nat} (h : v.within n = true) : (entV s v).within (n + 1) = true := by
  rw [Val.within_s]; simp [entV, Val.shape, h]
theorem listV_within' {l : List Val} {n : Nat} (h : ∀ x ∈ l, x.within n = true) : (listV l).within (n + 1) = true := listV_within.2 h
theorem may_of {v : Val} (h : v.within 256 = true) : v.may = true := by rw [← Val.may_eq]; exact h
theorem szV_of {v : Val} (h : v.within 256 = true) : szV v = v.size := by rw [szV, may_of h]; rfl
theorem fo_leaf (n : Nat) (kd : Bool) (key s : ByteArray) : fF (n + 1) [⟨kd, key, numV s⟩] = .cons ⟨kd, key, 4, s⟩ .nil .nil := by
  rw [fF_one, show (numV s).subs = [] by simp [Val.subs, numV], fF_nil]; rfl
theorem fo_list (n : Nat) (kd : Bool) (key : ByteArray) (l : List Val) : fF (n + 1) [⟨kd, key, listV l⟩] = .cons ⟨kd, key, 7, ⟨#[]⟩⟩ (fF n (l.map elP)) .nil := by
  rw [fF_one, listV_subs]; rfl
theorem entV_subs (s : ByteArray) (v : Val) : (entV s v).subs = [⟨true, s, v⟩] := by
  have h := ents_of (entV s v) (by simp [entV]) (L := [(s, v)]) (by simp [entV]) (by simp)
  rw [Val.subs, show (entV s v).k = 8 from rfl, if_pos rfl, ← h]
  rfl
theorem fo_ent (n : Nat) (kd : Bool) (key s : ByteArray) (v : Val) : fF (n + 1) [⟨kd, key, entV s v⟩] = .cons ⟨kd, key, 8, ⟨#[]⟩⟩ (fF n [⟨true, s, v⟩]) .nil := by
  rw [fF_one, entV_subs]; rfl
theorem fF_cons (n : Nat) (x : Plc) (xs : List Plc) : fF n (x :: xs) = (fF n xs).app (fF n [x]) := fF_app n [x] xs
/-- The values of the chapter's examples. -/
def n1V : Val := numV ⟨#[49]⟩
def n2V : Val := numV ⟨#[50]⟩
theorem nb {c : UInt8} : (⟨#[c]⟩ : ByteArray).toList ≠ [] := by simp
theorem farI_of {a b : Val} {n m k : Nat} {F G : Fo} (ha : a.within 256 = true) (hb : b.within 256 = true) (hn : a.size = n) (hm : b.size = m) (h1 : n ≠ 0) (h2 : m ≠ 0) (h3 : ¬ 4096 < n) (h4 : ¬ 4096 < n * m) (hF : a.fo = F) (hG : b.fo = G) (hk : farE (n + m + 1) F G = k) : farI a b = k := by
  have e1 : szV a = n := (szV_of ha).trans hn
  have e2 : szV b = m := (szV_of hb).trans hm
  rw [farI_yes (by rw [e1]; exact h1) (by rw [e2]; exact h2) (by rw [e1]; exact h3) (by rw [e1, e2]; exact h4), farV, ← hk, hF, hG, farE_eq]
  rw [← hF, ← hG, Val.fo_size (may_of ha), Val.fo_size (may_of hb)]
  omega
theorem numV_size (s : ByteArray) : (numV s).size = 1 := by rw [Val.size_eq]; rfl
theorem entV_size (s : ByteArray) (v : Val) : (entV s v).size = 1 + v.size := by rw [Val.size_eq]; simp [entV]
theorem ex_1 : farI (numV ⟨#[49]⟩) (numV ⟨#[50]⟩) = 1 :=
  farI_of (n := 1) (m := 1) (numV_within nb 256) (numV_within nb 256) (numV_size _) (numV_size _) (by decide) (by decide) (by decide) (by decide) (fo_leaf 256 _ _ _) (fo_leaf 256 _ _ _) (by kernel_rfl)
theorem ex_2 : farI (listV [numV ⟨#[49]⟩, numV ⟨#[50]⟩]) (listV [numV ⟨#[49]⟩, numV ⟨#[51]⟩, numV ⟨#[50]⟩]) = 1 :=
  farI_of (n := 3) (m := 4) (listV_within' (n := 255) (by simp [numV_within nb])) (listV_within' (n := 255) (by simp [numV_within nb])) (by simp [listV_size, numV_size]) (by simp [listV_size, numV_size]) (by decide) (by decide) (by decide) (by decide)
    (by rw [Val.fo, fo_list 256]) (by rw [Val.fo, fo_list 256]) (by kernel_rfl)
theorem ex_3 : farI (entV ⟨#[97]⟩ (numV ⟨#[49]⟩)) (entV ⟨#[98]⟩ (numV ⟨#[49]⟩)) = 1 :=
  farI_of (n := 2) (m := 2) (entV_within (n := 255) (numV_within nb 255)) (entV_within (n := 255) (numV_within nb 255)) (by rw [entV_size, numV_size]) (by rw [entV_size, numV_size]) (by decide) (by decide) (by decide) (by decide)
    (by rw [Val.fo, fo_ent 256, fo_leaf 255]) (by rw [Val.fo, fo_ent 256, fo_leaf 255]) (by kernel_rfl)
theorem ex_4 : farI (listV [listV [numV ⟨#[49]⟩]]) (listV [numV ⟨#[49]⟩]) = 1 :=
  farI_of (n := 3) (m := 2) (listV_within' (n := 255) (by simp only [List.mem_singleton]; rintro x rfl; exact listV_within' (n := 254) (by simp [numV_within nb]))) (listV_within' (n := 255) (by simp [numV_within nb])) (by simp [listV_size, numV_size]) (by simp [listV_size, numV_size]) (by decide) (by decide) (by decide) (by decide)
    (by rw [Val.fo, fo_list 256]) (by rw [Val.fo, fo_list 256]) (by kernel_rfl)
theorem ex_5 : farI (entV ⟨#[97]⟩ (listV [numV ⟨#[49]⟩, numV ⟨#[50]⟩])) (numV ⟨#[53]⟩) = 4 :=
  farI_of (n := 4) (m := 1) (entV_within (n := 255) (listV_within' (n := 254) (by simp [numV_within nb]))) (numV_within nb 256) (by rw [entV_size]; simp [listV_size, numV_size]) (numV_size _) (by decide) (by decide) (by decide) (by decide)
    (by rw [Val.fo, fo_ent 256, fo_list 255]) (fo_leaf 256 _ _ _) (by kernel_rfl)
theorem far_v {w : World} {x y : AV} {a b : Val} {k : Int} (h : farI a b = k) (ha : x.v = a) (hb : y.v = b) (hwa : a.w ≤ 1048576) (hwb : b.w ≤ 1048576) (hx : Rd w x) (hy : Rd w y) : Calls Tryz.prog 55 #[x.val, y.val] w (Ret (.int .i64 k) w) := by
  have := far_c w x y hx hy (by show x.v.w ≤ _; rw [ha]; exact hwa) (by show y.v.w ≤ _; rw [hb]; exact hwb)
  rwa [ha, hb, h] at this
theorem within_v {w : World} {x y : AV} {a b : Val} {k m : Int} {z : Bool} (h : farI a b = k) (hz : (k != -1 && decide (k ≤ m)) = z) (ha : x.v = a) (hb : y.v = b) (hwa : a.w ≤ 1048576) (hwb : b.w ≤ 1048576) (hx : Rd w x) (hy : Rd w y) : Calls Tryz.prog 54 #[x.val, y.val, .int .i64 m] w (Ret (.bool z) w) := by
  have := within20_c w x y m hx hy (by show x.v.w ≤ _; rw [ha]; exact hwa) (by show y.v.w ≤ _; rw [hb]; exact hwb)
  rw [withinI, ha, hb, h, hz] at this
  exact this
end Go.Proofs.YtmhkacafilpliaaGreat
