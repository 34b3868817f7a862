/- The line of runs, both programs. -/
import Derived.Test.YtckfbfgfjlgmeaaGreatDoorEvLn2
import Derived.Test.YtckfbfgfjlgmeaaGreatDoorEvTextOf
set_option linter.unusedVariables false
set_option linter.unusedSimpArgs false
namespace Go.Proofs.YtckfbfgfjlgmeaaGreatDoor.Ev
theorem many_loop (c : UInt8) (n : Nat) (hn : n ≤ 100000) : ∀ (k i : Nat) (s : ByteArray), i + k = n → s.size ≤ 1000000 + i →
    packX 0 [5] (loopW (bd E0 (ev E0) loopW 0 [0, 1, 5, 6] L85b0) ⟨[(0, st ⟨#[c]⟩), (1, i64 n), (5, st s), (6, i64 i)], []⟩) = some (.ext 0, ⟨[(5, st (s ++ mkB (List.replicate k c)))], []⟩) := by
  intro k
  induction k with
  | zero =>
    intro i s h hs
    have hi : ¬ (i : Int) < (n : Int) := by omega
    have hi2 : ¬ i < n := by omega
    have e : s ++ mkB (List.replicate 0 c) = s := by apply B_inj; rw [B_append, B_mkB]; simp
    rw [e, loopW_eq]
    generalize loopW (bd E0 (ev E0) loopW 0 [0, 1, 5, 6] L85b0) = K
    simp -implicitDefEqProofs [bd, L85b0, hi, hi2]
  | succ k ih =>
    intro i s h hs
    have hi : (i : Int) < (n : Int) := by omega
    have hi2 : i < n := by omega
    have h1 : (⟨#[c]⟩ : ByteArray).size = 1 := rfl
    have hsz : s.size + (⟨#[c]⟩ : ByteArray).size ≤ 9223372036854775807 := by omega
    have hsz2 : s.size + 1 ≤ 9223372036854775807 := by omega
    have hw : IntKind.i64.wrap ((i : Int) + 1) = (i : Int) + 1 := wr64 (by omega) (by omega)
    have hih := ih (i + 1) (s ++ ⟨#[c]⟩) (by omega) (by rw [ByteArray.size_append, h1]; omega)
    have e : (s ++ (⟨#[c]⟩ : ByteArray)) ++ mkB (List.replicate k c) = s ++ mkB (List.replicate (k + 1) c) := by
      apply B_inj
      rw [B_append, B_append, B_append, B_mkB, B_mkB, List.replicate_succ, List.append_assoc]
      rfl
    rw [e, cs1] at hih
    rw [loopW_eq]
    clear ih
    generalize s ++ mkB (List.replicate (k + 1) c) = R at *
    generalize loopW (bd E0 (ev E0) loopW 0 [0, 1, 5, 6] L85b0) = K at hih ⊢
    simpa -implicitDefEqProofs [bd, L85b0, hi, hi2, h1, hsz, hsz2, hw] using hih
theorem many_s (c : UInt8) (n : Nat) (hn : n ≤ 100000) : ev E0 85 [st ⟨#[c]⟩, i64 n] [] = some (st (mkB (List.replicate n c)), []) := by
  have h := many_loop c n hn n 0 ⟨#[]⟩ (by omega) (by decide)
  have e : (⟨#[]⟩ : ByteArray) ++ mkB (List.replicate n c) = mkB (List.replicate n c) := by apply B_inj; rw [B_append]; rfl
  rw [c0, e] at h
  rw [e85]
  unfold runF
  generalize mkB (List.replicate n c) = R at *
  simp -implicitDefEqProofs [L85, h]
theorem rep_one (c : UInt8) (n : Nat) : Lib.repeatL [c] n = List.replicate n c := by
  induction n with
  | zero => rfl
  | succ n ih =>
    rw [List.replicate_succ, ← ih]
    simp [Lib.repeatL, List.replicate_succ]
theorem repeat_i (c : UInt8) (n : Nat) (hn : n ≤ 100000) : ev E0 92 [st ⟨#[c]⟩, i64 n] [] = some (st (mkB (List.replicate n c)), []) := by
  rw [e92]
  have h1 : (⟨#[c]⟩ : ByteArray).size ≤ 1000000 := by rw [show (⟨#[c]⟩ : ByteArray).size = 1 from rfl]; omega
  show (if _ then _ else _) = _
  rw [if_pos ⟨by omega, by omega, h1⟩, Int.toNat_natCast, show (⟨#[c]⟩ : ByteArray).data.toList = [c] from rfl, rep_one]
  rfl
-- ---------------------------------------------------------------- runs handed in
abbrev P := Int × Int
def pn (p : P) : AV := .agg [i64 p.1, i64 p.2]
@[simp] theorem free_pn (l : List P) : okL (free 5) (l.map pn) = true := okL_map (fun _ => rfl) l
def ch (v : Int) : UInt8 := if v = 0 then 48 else 49
def rt (p : P) : List UInt8 := List.replicate p.2.toNat (ch p.1)
def lineL (l : List P) : List UInt8 := (l.map rt).flatten
/-- Runs of a line, the one ahead and how long it is so far. -/
def okRs : Option Int → Int → List P → Bool
  | _, _, [] => true
  | v, n, p :: t => (decide (0 ≤ p.1) && decide (p.1 ≤ 1)) && ((decide (1 ≤ p.2) && decide (p.2 ≤ 200 - n)) && (decide (v ≠ some p.1) && okRs (some p.1) (n + p.2) t))
theorem ofR_loop (l : List P) (hl : l.length ≤ 1000000) : ∀ (t : List P) (i : Nat) (s : ByteArray), l.drop i = t → (∀ p ∈ t, (p.1 = 0 ∨ p.1 = 1) ∧ 0 ≤ p.2 ∧ p.2 ≤ 200) → s.size ≤ 200 * i →
    packX 0 [3] (loopW (bd E0 (ev E0) loopW 0 [3, 6, 7, 8] L83b0) ⟨[(3, st s), (6, .lst 2 (l.map pn)), (7, i64 l.length), (8, i64 i)], []⟩) = some (.ext 0, ⟨[(3, st (s ++ mkB (lineL t)))], []⟩) := by
  intro t
  induction t with
  | nil =>
    intro i s h _ _
    have hi := not_drop h
    have hii : ¬ (i : Int) < (l.length : Int) := by omega
    have e : s ++ mkB (lineL []) = s := by apply B_inj; rw [B_append, B_mkB]; simp [lineL]
    rw [e, loopW_eq]
    generalize loopW (bd E0 (ev E0) loopW 0 [3, 6, 7, 8] L83b0) = K
    simp -implicitDefEqProofs [bd, L83b0, hi, hii]
  | cons p t ih =>
    intro i s h hp hs
    obtain ⟨hi, hx, hd, hmem⟩ := at_drop h
    obtain ⟨h1, h2, h3⟩ := hp p (List.mem_cons_self ..)
    have hii : (i : Int) < (l.length : Int) := by omega
    obtain ⟨v, n⟩ := p
    dsimp only at h1 h2 h3
    obtain ⟨k, rfl⟩ : ∃ k : Nat, n = k := ⟨n.toNat, by omega⟩
    have hk : k ≤ 200 := by omega
    have hg1 : (l.map pn)[i]? = some (.agg [i64 v, i64 (k : Int)]) := by rw [List.getElem?_map, List.getElem?_eq_getElem hi, hx]; rfl
    have hg : ∀ h, (l.map pn)[i]'h = .agg [i64 v, i64 (k : Int)] := fun h => (List.getElem?_eq_some_iff.1 hg1).2
    have hw : IntKind.i64.wrap ((i : Int) + 1) = (i : Int) + 1 := wr64 (by omega) (by omega)
    have hz : (mkB (List.replicate k (ch v))).size = k := by rw [mkB_size, List.length_replicate]
    have hsz : s.size + (mkB (List.replicate k (ch v))).size ≤ 9223372036854775807 := by omega
    have hih := ih (i + 1) (s ++ mkB (List.replicate k (ch v))) hd (fun q hq => hp q (List.mem_cons_of_mem _ hq)) (by rw [ByteArray.size_append, hz]; omega)
    have e : (s ++ mkB (List.replicate k (ch v))) ++ mkB (lineL t) = s ++ mkB (lineL ((v, (k : Int)) :: t)) := by
      apply B_inj
      unfold lineL
      rw [B_append, B_append, B_append, B_mkB, B_mkB, B_mkB, List.map_cons, List.flatten_cons, List.append_assoc]
      unfold rt
      rw [Int.toNat_natCast]
    rw [e, cs1] at hih
    have hrep := repeat_i (ch v) k (by omega)
    have hQ : (l.map pn).length = l.length := List.length_map _
    rw [loopW_eq]
    clear ih e hz
    generalize s ++ mkB (lineL ((v, (k : Int)) :: t)) = R at *
    generalize l.map pn = Q at *
    generalize hM : mkB (List.replicate k (ch v)) = M at *
    have w0 : IntKind.i64.wrap 48 = 48 := rfl
    have w1 : IntKind.i64.wrap 49 = 49 := rfl
    have w2 : IntKind.u8.wrap 48 = 48 := rfl
    have w3 : IntKind.u8.wrap 49 = 49 := rfl
    generalize loopW (bd E0 (ev E0) loopW 0 [3, 6, 7, 8] L83b0) = K at hih ⊢
    rcases h1 with rfl | rfl
    · rw [show ch 0 = 48 from rfl] at hrep
      simpa -implicitDefEqProofs [bd, L83b0, hi, hii, hg, hg1, hw, hsz, hrep, hQ, w0, w2, b2sR, b2sL, bytesOf] using hih
    · rw [show ch 1 = 49 from rfl] at hrep
      simpa -implicitDefEqProofs [bd, L83b0, hi, hii, hg, hg1, hw, hsz, hrep, hQ, w1, w3, b2sR, b2sL, bytesOf] using hih
theorem ofR_i (l : List P) (hl : l.length ≤ 1000000) (hp : ∀ p ∈ l, (p.1 = 0 ∨ p.1 = 1) ∧ 0 ≤ p.2 ∧ p.2 ≤ 200) : ev E0 83 [.lst 2 (l.map pn)] [] = some (st (mkB (lineL l)), []) := by
  have h := ofR_loop l hl l 0 ⟨#[]⟩ rfl hp (by decide)
  have e : (⟨#[]⟩ : ByteArray) ++ mkB (lineL l) = mkB (lineL l) := by apply B_inj; rw [B_append]; rfl
  rw [c0, e] at h
  have hQ : (l.map pn).length = l.length := List.length_map _
  have hfr := free_pn l
  rw [e83]
  unfold runF
  generalize mkB (lineL l) = R at *
  generalize l.map pn = Q at *
  simp -implicitDefEqProofs [L83, h, hQ, hfr]
end Go.Proofs.YtckfbfgfjlgmeaaGreatDoor.Ev
