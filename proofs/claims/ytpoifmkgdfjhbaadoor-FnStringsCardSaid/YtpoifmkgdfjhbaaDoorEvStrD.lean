/- The draws of the law on strings: a number, a numeral, a text. -/
import Derived.Test.YtpoifmkgdfjhbaaDoorEvDraw
import Derived.Test.YtpoifmkgdfjhbaaDoorEvStrN
set_option linter.unusedVariables false
set_option linter.unusedSimpArgs false
namespace Go.Proofs.YtpoifmkgdfjhbaaDoor.Ev.Dr
open Lg (mk_B B_mk' mk_size num_z it it_eq txts)
theorem okC_of {x : List Int} (hl : x.length ≤ 140737488355328) (hw : ∀ y ∈ x, (Lit.int .u8 y).wf = true) : okC x := by
  refine ⟨hl, fun y hy => ?_⟩
  have h := hw y hy
  unfold Lit.wf at h
  rw [Bool.and_eq_true, decide_eq_true_eq, decide_eq_true_eq] at h
  exact h
theorem vbig (x : List Int) : ev E0 4 [.lst 1 (cd x)] [] = some (bl (decide (65536 < (x.length : Int))), []) := by
  rw [e4]
  unfold runF
  simp -implicitDefEqProofs [L4, cd_len]
theorem vat (x : List Int) (hx : okC x) (hl : x.length ≤ 65536) (n : Nat) (hn : n ≤ 200) : ∃ k : Int, 0 ≤ k ∧ k ≤ 255 ∧ ev E0 15 [.lst 1 (cd x), i64 n] [] = some (i64 k, []) := by
  rw [e15]
  unfold runF
  by_cases h : n < x.length
  · obtain ⟨y, hy⟩ : ∃ y, x[n]? = some y := ⟨_, List.getElem?_eq_getElem h⟩
    obtain ⟨y0, y1⟩ := hx.2 y (List.mem_of_getElem? hy)
    have hg : (cd x)[n]? = some (AV.v (.int .u8 y)) := by unfold cd; rw [List.getElem?_map, hy]; rfl
    have hg2 : ∀ h, (cd x)[n]'h = AV.v (.int .u8 y) := fun h => (List.getElem?_eq_some_iff.1 hg).2
    have hi : (n : Int) < (x.length : Int) := by omega
    have hw : IntKind.i64.wrap y = y := wr64 (by omega) (by omega)
    refine ⟨y, y0, y1, ?_⟩
    simp -implicitDefEqProofs [L15, cd_len, h, hi, hg, hg2, hw]
  · have hi : ¬ (n : Int) < (x.length : Int) := by omega
    have w1 : IntKind.i64.wrap ((n : Int) * 7) = (n : Int) * 7 := wr64 (by omega) (by omega)
    have w2 : IntKind.i64.wrap ((n : Int) * 7 + (x.length : Int)) = (n : Int) * 7 + (x.length : Int) := wr64 (by omega) (by omega)
    obtain ⟨k, hk⟩ : ∃ k : Int, k = Int.tmod ((n : Int) * 7 + (x.length : Int)) 256 := ⟨_, rfl⟩
    have k0 : 0 ≤ k := by rw [hk]; exact Int.tmod_nonneg _ (by omega)
    have k1 : k < 256 := by rw [hk]; exact Int.tmod_lt_of_pos _ (by omega)
    refine ⟨k, k0, by omega, ?_⟩
    have hk2 := hk.symm
    simp -implicitDefEqProofs [L15, cd_len, h, hi, w1, w2, hk2]
theorem leaf_cu (x : List Int) (a s : Int) : leafB (cu x a s) := ⟨rfl, fun _ => rfl⟩
theorem st1 (x : List Int) (a s : Int) : Stable [some (cu x a s)] := stable_leaves (H := []) ⟨by simp [oldIds], rfl⟩ [cu x a s] (by
    intro q hq
    simp at hq
    subst hq
    exact leaf_cu x a s)
theorem st2 (x : List Int) (a s : Int) (b : Blk) (hb : leafB b) : Stable [some (cu x a s), some b] := stable_leaf (st1 x a s) hb
def nums (r : Int) : List Int := [0, 1, -1, 10, 999999, -999999, 1000000, -1000000, r - 500]
theorem drawF (x : List Int) (hx : okC x) : ∃ r t : Int, 0 ≤ r ∧ r < 1000 ∧ t ∈ nums r ∧ ev E0 5 [.lst 1 (cd x)] [] = some (i64 t, []) := by
  obtain ⟨a1, s1, r, p1, q1, r0, r1, e1⟩ := pick_ok x hx [some (cu x 0 0)] 0 0 0 rfl (st1 x 0 0) (by omega) (by omega) 1000
  obtain ⟨a2, s2, t, p2, q2, ht, e2⟩ := among_ok x hx [some (cu x a1 s1), some ⟨3, 1, 1, false, (nums r).map i64⟩] 0 a1 s1 rfl (st2 x a1 s1 _ ⟨rfl, fun _ => rfl⟩) (by omega) (by omega) 1 (by decide) (nums r) 9 rfl (by decide) rfl
  have hw : IntKind.i64.wrap (r - 500) = r - 500 := wr64 (by omega) (by omega)
  refine ⟨r, t, r0, by omega, ht, ?_⟩
  simp only [List.set_cons_zero, nums, List.map_cons, List.map_nil, cu] at e1 e2
  rw [e5]
  unfold runF
  simp -implicitDefEqProofs [L5, e1, e2, hw]
def tx : List ByteArray := txts.map Lg.mk
theorem drawP (x : List Int) (hx : okC x) : ∃ t : ByteArray, (t ∈ tx ∨ ∃ r : Int, 0 ≤ r ∧ r < 2000 ∧ t = Lg.mk (Lib.itoa (r - 1000))) ∧ ev E0 8 [.lst 1 (cd x)] [] = some (st t, []) := by
  obtain ⟨a1, s1, b, p1, q1, e1⟩ := one_ok x hx [some (cu x 0 0)] 0 0 0 rfl (st1 x 0 0) (by omega) (by omega) 2
  cases b with
  | true =>
    obtain ⟨a2, s2, t, p2, q2, ht, e2⟩ := of_ok x hx [some (cu x a1 s1), some ⟨9, 1, 1, false, tx.map st⟩] 0 a1 s1 rfl (st2 x a1 s1 _ ⟨rfl, fun _ => rfl⟩) (by omega) (by omega) 1 (by decide) tx 11 rfl (by decide) rfl
    refine ⟨t, .inl ht, ?_⟩
    simp only [List.set_cons_zero, tx, txts, Lg.mk, mkB, List.map_cons, List.map_nil, cu] at e1 e2
    rw [e8]
    unfold runF
    simp -implicitDefEqProofs [L8, e1, e2]
  | false =>
    obtain ⟨a2, s2, r, p2, q2, r0, r1, e2⟩ := pick_ok x hx [some (cu x a1 s1)] 0 a1 s1 rfl (st1 x a1 s1) (by omega) (by omega) 2000
    have hw : IntKind.i64.wrap (r - 1000) = r - 1000 := wr64 (by omega) (by omega)
    have e3 := num_z (r - 1000) (by omega) (by omega)
    refine ⟨Lg.mk (Lib.itoa (r - 1000)), .inr ⟨r, r0, by omega, rfl⟩, ?_⟩
    generalize Lg.mk (Lib.itoa (r - 1000)) = u at *
    simp only [List.set_cons_zero, cu] at e1 e2
    rw [e8]
    unfold runF
    simp -implicitDefEqProofs [L8, e1, e2, e3, hw]
def anys : List ByteArray := [⟨#[]⟩, ⟨#[97]⟩, ⟨#[97, 44, 98]⟩, ⟨#[115, 111, 109, 101, 32, 119, 111, 114, 100, 115]⟩, ⟨#[120, 35, 121]⟩, ⟨#[45, 49, 50]⟩, ⟨#[0, 255]⟩, ⟨#[44, 44]⟩, ⟨#[48]⟩]
theorem any_ok (x : List Int) (hx : okC x) (a s : Int) (h0 : 0 ≤ a) (h1 : a ≤ 100) : ∃ (a' s' : Int) (t : ByteArray), t.size ≤ 10 ∧ ev E0 26 [.ptr 0 0 0] [some (cu x a s)] = some (st t, [some (cu x a' s')]) := by
  obtain ⟨a2, s2, t, p2, q2, ht, e2⟩ := of_ok x hx [some (cu x a s), some ⟨9, 1, 1, false, anys.map st⟩] 0 a s rfl (st2 x a s _ ⟨rfl, fun _ => rfl⟩) (by omega) (by omega) 1 (by decide) anys 9 rfl (by decide) rfl
  have hz : t.size ≤ 10 := by
    simp only [anys, List.mem_cons, List.not_mem_nil, or_false] at ht
    rcases ht with h | h | h | h | h | h | h | h | h <;> subst h <;> decide
  refine ⟨a2, s2, t, hz, ?_⟩
  simp only [List.set_cons_zero, anys, List.map_cons, List.map_nil, cu] at e2 ⊢
  rw [e26]
  unfold runF
  simp -implicitDefEqProofs [L26, e2]
theorem bytes_rep : ∀ n : Nat, bytesOf (List.replicate n (AV.v (.int .u8 0))) = some (List.replicate n 0)
  | 0 => rfl
  | n + 1 => by rw [List.replicate_succ, bytesOf, bytes_rep n]; rfl
theorem drawA (x : List Int) (hx : okC x) : ∃ t : ByteArray, t.size ≤ 5000 ∧ ev E0 11 [.lst 1 (cd x)] [] = some (st t, []) := by
  obtain ⟨a1, s1, b, p1, q1, e1⟩ := one_ok x hx [some (cu x 0 0)] 0 0 0 rfl (st1 x 0 0) (by omega) (by omega) 20
  cases b with
  | true =>
    obtain ⟨a2, s2, r, p2, q2, r0, r1, e2⟩ := pick_ok x hx [some (cu x a1 s1)] 0 a1 s1 rfl (st1 x a1 s1) (by omega) (by omega) 10
    obtain ⟨k, hk⟩ : ∃ k : Nat, 3990 + r = (k : Int) := ⟨(3990 + r).toNat, by omega⟩
    have hk1 : k ≤ 4000 := by omega
    have hw : IntKind.i64.wrap (3990 + r) = (k : Int) := by rw [hk]; exact wr64 (by omega) (by omega)
    have hb := bytes_rep k
    have hk2 : (k : Int) ≤ 140737488355328 := by omega
    refine ⟨⟨Array.replicate k 0⟩, by simp [ByteArray.size]; omega, ?_⟩
    simp only [List.set_cons_zero, cu] at e1 e2
    rw [e11]
    unfold runF
    simp -implicitDefEqProofs [L11, e1, e2, hw, hb, hk2, b2sR, b2sL]
  | false =>
    obtain ⟨a2, s2, t, hz, e2⟩ := any_ok x hx a1 s1 (by omega) (by omega)
    refine ⟨t, by omega, ?_⟩
    simp only [List.set_cons_zero, cu] at e1 e2
    rw [e11]
    unfold runF
    simp -implicitDefEqProofs [L11, e1, e2]
end Go.Proofs.YtpoifmkgdfjhbaaDoor.Ev.Dr
