/- Numerals, readings and sealed texts in plain words: readings are checked for all numbers that are drawn; no sealed text is another one with one byte changed. -/
import Derived.Lib.AtoiAll
import Derived.Test.YtpoifmkgdfjhbaaDoorEvLogP
set_option linter.unusedVariables false
namespace Go.Proofs.YtpoifmkgdfjhbaaDoor.Ev.Lg
theorem itoa_nat' (n : Nat) : Lib.itoa (n : Int) = Lib.decDigits n := by
  unfold Lib.itoa
  rw [if_neg (by omega), Int.toNat_natCast]
def dd : Nat → Nat → List UInt8
  | 0, _ => []
  | k + 1, n => if n < 10 then [UInt8.ofNat (48 + n)] else dd k (n / 10) ++ [UInt8.ofNat (48 + n % 10)]
theorem dd_eq : ∀ (k n : Nat), n < 10 ^ (k + 1) → dd (k + 1) n = Lib.decDigits n := by
  intro k
  induction k with
  | zero => intro n h; rw [Lib.decDigits, dif_pos (by simpa using h), dd, if_pos (by simpa using h)]
  | succ k ih =>
    intro n h
    by_cases hn : n < 10
    · rw [Lib.decDigits, dif_pos hn, dd, if_pos hn]
    · rw [Lib.decDigits, dif_neg hn, dd, if_neg hn, ih (n / 10) (by rw [Nat.pow_succ] at h; omega)]
def it (n : Int) : List UInt8 := if n < 0 then 45 :: dd 8 n.natAbs else dd 8 n.toNat
theorem it_eq {n : Int} (h1 : -99999999 ≤ n) (h2 : n ≤ 99999999) : it n = Lib.itoa n := by
  unfold it Lib.itoa
  rw [dd_eq 7 _ (by omega), dd_eq 7 _ (by omega)]
def pv (l : List UInt8) : Int × Bool := match Lib.atoiAll l with
  | .ok v => if Lib.itoa v = l ∧ -999999 ≤ v ∧ v ≤ 999999 then (v, true) else (0, false)
  | _ => (0, false)
def pv' (l : List UInt8) : Int × Bool := match Lib.atoiAll l with
  | .ok v => if (-999999 ≤ v ∧ v ≤ 999999) ∧ it v = l then (v, true) else (0, false)
  | _ => (0, false)
theorem pv_eq (l : List UInt8) : pv l = pv' l := by
  unfold pv pv'
  split
  · rename_i v _
    by_cases h : -999999 ≤ v ∧ v ≤ 999999
    · rw [it_eq (by omega) (by omega)]
      simp [h, and_comm]
    · rw [if_neg (fun hh => h hh.2), if_neg (fun hh => h hh.1)]
  · rfl
def digs : List UInt8 → Nat → Option Nat
  | [], n => some n
  | c :: r, n => if c.toNat < 48 ∨ 57 < c.toNat then none else digs r (10 * n + (c.toNat - 48))
/-- What stands behind the sign. -/
def bare (l : List UInt8) : List UInt8 := match l with
  | [] => []
  | c :: r => if 1 ≤ r.length ∧ c = 45 then r else c :: r
def rd (l : List UInt8) : Int × Bool :=
  if 1 ≤ (bare l).length ∧ (bare l).length ≤ 6 then
    match digs (bare l) 0 with
    | none => (0, false)
    | some n => if it (if (bare l).length < l.length then -(n : Int) else n) = l then (if (bare l).length < l.length then -(n : Int) else n, true) else (0, false)
  else (0, false)
def ok1 (l : List UInt8) : Bool := decide (pv' l = rd l)
def ok2 (n : Int) : Bool := decide (pv' (it n) = (n, true))
theorem all1 : ∀ k : _root_.Fin 2000, ok1 (it ((k.val : Int) - 1000)) = true := by decide +kernel
theorem all2 : ∀ k : _root_.Fin 1000, ok2 ((k.val : Int) - 500) = true := by decide +kernel
def txts : List (List UInt8) := [[], [45], [45,48], [48,48],[48,49],[45,45,49],[49,120],[57,57,57,57,57,57],[49,48,48,48,48,48,48],[45,57,57,57,57,57,57],[49,56,52,52,54,55,52,52,48,55,51,55,48,57,53,53,49,54,49,55]]
theorem all3 : txts.all ok1 = true := by decide +kernel
theorem all4 : ([0,1,-1,10,999999,-999999] : List Int).all ok2 = true := by decide +kernel
def valOf (l : List UInt8) : Nat := l.foldl (fun a c => 10 * a + (c.toNat - 48)) 0
theorem val_dec : ∀ (m n : Nat), n ≤ m → valOf (Lib.decDigits n) = n := by
  intro m
  induction m with
  | zero =>
    intro n hn
    obtain rfl : n = 0 := by omega
    rw [Lib.decDigits, dif_pos (by decide)]
    rfl
  | succ m ih =>
    intro n hn
    by_cases h : n < 10
    · rw [Lib.decDigits, dif_pos h]
      simp only [valOf, List.foldl_cons, List.foldl_nil, UInt8.toNat_ofNat']
      omega
    · rw [Lib.decDigits, dif_neg h]
      have := ih (n / 10) (by omega)
      unfold valOf at this ⊢
      rw [List.foldl_append, this]
      simp only [List.foldl_cons, List.foldl_nil, UInt8.toNat_ofNat']
      omega
theorem itoa_inj {m n : Nat} (h : Lib.itoa (m : Int) = Lib.itoa (n : Int)) : m = n := by
  rw [itoa_nat', itoa_nat'] at h
  have := congrArg valOf h
  rwa [val_dec m m (Nat.le_refl _), val_dec n n (Nat.le_refl _)] at this
theorem sum_back : ∀ (l : List UInt8) (a b : Nat), a < 999979 → b < 999979 → sum l a = sum l b → a = b := by
  intro l
  induction l with
  | nil => intro a b _ _ h; exact h
  | cons c l ih =>
    intro a b ha hb h
    have := ih ((41 * a + c.toNat + 1) % 999979) ((41 * b + c.toNat + 1) % 999979) (Nat.mod_lt _ (by decide)) (Nat.mod_lt _ (by decide)) h
    omega
theorem sum_set : ∀ (l : List UInt8) (k : Nat) (c d : UInt8) (h : Nat), l[k]? = some d → sum (l.set k c) h = sum l h → c = d := by
  intro l
  induction l with
  | nil => intro k c d h hk; simp at hk
  | cons x l ih =>
    intro k c d h hk he
    cases k with
    | zero =>
      simp at hk
      subst hk
      have := sum_back l ((41 * h + c.toNat + 1) % 999979) ((41 * h + x.toNat + 1) % 999979) (Nat.mod_lt _ (by decide)) (Nat.mod_lt _ (by decide)) he
      have hc := UInt8.toNat_lt c
      have hx := UInt8.toNat_lt x
      apply UInt8.toNat_inj.1
      omega
    | succ k => exact ih k c d _ (by simpa using hk) he
theorem only35 {a d : List UInt8} (ha : 35 ∉ a) (hd : 35 ∉ d) (i : Nat) : (a ++ 35 :: d)[i]? = some 35 ↔ i = a.length := by
  by_cases h : i < a.length
  · rw [List.getElem?_append_left h]
    refine ⟨fun hh => absurd (List.mem_of_getElem? hh) ha, fun hh => by omega⟩
  · rw [List.getElem?_append_right (by omega)]
    cases hq : i - a.length with
    | zero => simp; omega
    | succ q =>
      rw [List.getElem?_cons_succ]
      refine ⟨fun hh => absurd (List.mem_of_getElem? hh) hd, fun hh => by omega⟩
theorem itoa_no35 (n : Int) : (35 : UInt8) ∉ Lib.itoa n := fun h => absurd (itoa_bytes n 35 h).1 (by decide)
theorem detect {x : List UInt8} {k : Nat} {c d : UInt8} (hx : 35 ∉ x) (hk : (seal_ x)[k]? = some d) (hc : c ≠ d) {t : List UInt8} (ht : 35 ∉ t) : seal_ t ≠ (seal_ x).set k c := by
  intro he
  have hkl : k < (seal_ x).length := (List.getElem?_eq_some_iff.1 hk).1
  have ho : ∀ i, i ≠ k → (seal_ t)[i]? = (seal_ x)[i]? := by
    intro i hi
    rw [he, List.getElem?_set_ne (by omega)]
  have hat : (seal_ t)[k]? = some c := by rw [he, List.getElem?_set_self hkl]
  have h1 : ∀ i, (seal_ x)[i]? = some 35 ↔ i = x.length := only35 hx (itoa_no35 _)
  have h2 : ∀ i, (seal_ t)[i]? = some 35 ↔ i = t.length := only35 ht (itoa_no35 _)
  by_cases hl : t.length = x.length
  · rcases Nat.lt_trichotomy k x.length with h | h | h
    · have hs : seal_ t = x.set k c ++ 35 :: Lib.itoa (sum x 7) := by
        rw [he]
        unfold seal_
        rw [List.set_append_left _ _ h]
      have hin := List.append_inj hs (by rw [List.length_set]; exact hl)
      have hd : sum t 7 = sum x 7 := itoa_inj (List.cons.inj hin.2).2
      rw [hin.1] at hd
      refine hc (sum_set x k c d 7 ?_ hd)
      unfold seal_ at hk
      rwa [List.getElem?_append_left h] at hk
    · have := (h1 k).2 h
      rw [hk] at this
      have h3 := (h2 k).2 (by omega)
      rw [hat] at h3
      exact hc (Option.some.inj (h3.trans this.symm))
    · have htx : t = x := by
        have h5 : (seal_ t).take x.length = (seal_ x).take x.length := by
          apply List.ext_getElem?
          intro i
          rw [List.getElem?_take, List.getElem?_take]
          split
          · exact ho i (by omega)
          · rfl
        unfold seal_ at h5
        rwa [List.take_left' hl, List.take_left' rfl] at h5
      subst htx
      rw [hat] at hk
      exact hc (Option.some.inj hk)
  · have a1 : x.length = k := by
      apply Decidable.byContradiction
      intro hh
      have := (h2 x.length).1 ((ho _ hh).trans ((h1 _).2 rfl))
      omega
    have a2 : t.length = k := by
      apply Decidable.byContradiction
      intro hh
      have := (h1 t.length).1 ((ho _ hh).symm.trans ((h2 _).2 rfl))
      omega
    omega
end Go.Proofs.YtpoifmkgdfjhbaaDoor.Ev.Lg
