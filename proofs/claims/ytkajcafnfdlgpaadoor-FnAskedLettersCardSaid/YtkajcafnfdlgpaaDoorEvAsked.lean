/- The places that are asked for until a letter is told. -/
import Derived.Test.YtkajcafnfdlgpaaDoorEvAsks
set_option linter.unusedVariables false
set_option linter.unusedSimpArgs false
namespace Go.Proofs.YtkajcafnfdlgpaaDoor.Ev
def allL : Nat → Nat → List Nat
  | 0, _ => []
  | k + 1, i => i :: allL k (i + 1)
theorem allL_len : ∀ (k i : Nat), (allL k i).length = k
  | 0, i => rfl
  | k + 1, i => by rw [allL, List.length_cons, allL_len k]
theorem allL_mem : ∀ (k i x : Nat), x ∈ allL k i ↔ i ≤ x ∧ x < i + k
  | 0, i, x => by simp [allL]
  | k + 1, i, x => by rw [allL, List.mem_cons, allL_mem k]; omega
theorem allL_pair : ∀ (k i : Nat), (allL k i).Pairwise (· < ·)
  | 0, i => .nil
  | k + 1, i => List.pairwise_cons.2 ⟨fun x hx => by have := (allL_mem k (i + 1) x).1 hx; omega, allL_pair k (i + 1)⟩
theorem all_loop (ms : List ByteArray) (hm : ms.length ≤ 8796093022208) : ∀ (k i : Nat) (r : List AV), i + k = ms.length → r.length ≤ i →
    packX 0 [3] (loopW (bd E0 (ev E0) loopW 0 [1, 3, 4] L93b0) ⟨[(1, .ptr 0 0 0), (3, .sl 1 0 r.length), (4, i64 i)], [some ⟨26, 1, 0, false, [.agg [.lst 1 (ms.map st)]]⟩, some ⟨3, 1, 1, false, r⟩]⟩) = some (.ext 0, ⟨[(3, .sl 0 0 (r.length + (allL k i).length))], [some ⟨3, 1, 1, false, r ++ i64n (allL k i)⟩]⟩) := by
  intro k
  induction k with
  | zero =>
    intro i r h hr
    have hi : ¬ i < ms.length := by omega
    rw [loopW_eq]
    generalize loopW (bd E0 (ev E0) loopW 0 [1, 3, 4] L93b0) = K
    simp -implicitDefEqProofs [bd, L93b0, hi, allL, i64n]
  | succ k ih =>
    intro i r h hr
    have hi : i < ms.length := by omega
    have hw : IntKind.i64.wrap ((i : Int) + 1) = (i : Int) + 1 := wr64 (by omega) (by omega)
    have hih := ih (i + 1) (r ++ [i64 i]) (by omega) (by simp; omega)
    rw [cs1] at hih
    have h3 : (r.length + 1) * 8 ≤ 140737488355328 := by omega
    have h4 : r.length + 1 ≤ 140737488355328 := by omega
    have h5 : r.length + (allL (k + 1) i).length = (r ++ [i64 i]).length + (allL k (i + 1)).length := by simp [allL]; omega
    have h6 : r ++ i64n (allL (k + 1) i) = (r ++ [i64 i]) ++ i64n (allL k (i + 1)) := by simp [allL, i64n]
    rw [h5, h6, loopW_eq]
    generalize allL k (i + 1) = q at hih ⊢
    generalize loopW (bd E0 (ev E0) loopW 0 [1, 3, 4] L93b0) = K at hih ⊢
    simpa -implicitDefEqProofs [bd, L93b0, hi, hw, h3, h4] using hih
theorem all_s (ms : List ByteArray) (hm : ms.length ≤ 8796093022208) : ev E0 93 [.agg [.lst 1 (ms.map st)]] [] = some (.sl 0 0 (allL ms.length 0).length, [some ⟨3, 1, 1, false, i64n (allL ms.length 0)⟩]) := by
  rw [e93]
  unfold runF
  have hl := all_loop ms hm ms.length 0 [] (by omega) (by simp)
  rw [c0, List.nil_append, List.length_nil, Nat.zero_add] at hl
  simp -implicitDefEqProofs [L93, hl]
theorem behind_all : ∀ (t : List ByteArray) (i : Nat), i64s (behindL ⟨#[]⟩ t i) = i64n (allL t.length i)
  | [], i => rfl
  | m :: t, i => by
    have h1 : pre m ⟨#[]⟩ = true := by
      have hz : (⟨#[]⟩ : ByteArray).size = 0 := rfl
      unfold pre
      rw [hz]
      simp
      rfl
    have h2 : behindL ⟨#[]⟩ (m :: t) i = (i : Int) :: behindL ⟨#[]⟩ t (i + 1) := by rw [behindL, if_pos h1]
    rw [h2, List.length_cons, allL, i64s_cons, behind_all t (i + 1)]
    rfl
theorem all_i (ms : List ByteArray) (hm : ms.length ≤ 8796093022208) : ev E0 50 [.agg [.lst 1 (ms.map st)], st ⟨#[]⟩] [] = some (.sl 0 0 (allL ms.length 0).length, [some ⟨3, 1, 1, false, i64n (allL ms.length 0)⟩]) := by
  have h := behind_i ms hm ⟨#[]⟩
  have h2 := behind_all ms 0
  have h3 : (behindL ⟨#[]⟩ ms 0).length = (allL ms.length 0).length := by
    have := congrArg List.length h2
    rwa [i64s_len, i64n_len] at this
  rw [h2, h3] at h
  exact h
-- ---------------------------------------------------------------- which place is asked for
theorem scan_place (ms : List ByteArray) (D : List Nat → Nat × Int) (l : List Nat) : ∀ (k q : Nat) (o : Option (Nat × Nat)), (∀ p w, o = some (p, w) → vainB ms p l = false) → ∀ p w, scan ms D l k q o = some (p, w) → vainB ms p l = false
  | 0, q, o, h => h
  | k + 1, q, o, h => by
    intro p w
    unfold scan
    split
    · exact scan_place ms D l k (q + 1) o h p w
    · rename_i hv
      refine scan_place ms D l k (q + 1) _ (fun p' w' e => ?_) p w
      unfold upd at e
      split at e
      · cases e; simpa using hv
      · split at e
        · cases e; simpa using hv
        · cases e; exact h _ _ rfl
theorem dep_place {ms : List ByteArray} {l : List Nat} (ha : Apart ms l) (h2 : 2 ≤ l.length) : ∃ p : Nat, (depN ms l.length l).2 = (p : Int) ∧ vainB ms p l = false := by
  obtain ⟨n, hn⟩ : ∃ n, l.length = n + 1 := ⟨l.length - 1, by omega⟩
  obtain ⟨j, hj, hj2⟩ := not_vain ha h2
  obtain ⟨p, w, hs⟩ := scan_some ms (depN ms n) l 5 0 none ⟨j, by omega, by omega, hj2⟩
  have hd : depN ms l.length l = finD (scan ms (depN ms n) l 5 0 none) := by
    rw [hn, depN, if_neg (by omega)]
  refine ⟨p, ?_, scan_place ms (depN ms n) l 5 0 none (fun p w h => by cases h) p w hs⟩
  rw [hd, hs]
  rfl
def askN (ms : List ByteArray) (letter : Nat) : Nat → List Nat → List Int
  | 0, _ => []
  | n + 1, l => if l.length ≤ 1 then [] else (depN ms l.length l).2 :: askN ms letter n (partN ms (depN ms l.length l).2.toNat (ansN ms (depN ms l.length l).2.toNat letter) l)
theorem askN_len (ms : List ByteArray) (letter : Nat) : ∀ (n : Nat) (l : List Nat), (askN ms letter n l).length ≤ n
  | 0, l => by simp [askN]
  | n + 1, l => by
    unfold askN
    split
    · simp
    · have := askN_len ms letter n (partN ms (depN ms l.length l).2.toNat (ansN ms (depN ms l.length l).2.toNat letter) l)
      simp
      omega
theorem part_mem {ms : List ByteArray} {q letter : Nat} {l : List Nat} (h : letter ∈ l) : letter ∈ partN ms q (ansN ms q letter) l := by
  unfold partN
  simp [h]
theorem askS_loop (ms : List ByteArray) (letter : Nat) (hlt : letter < ms.length) : ∀ (n : Nat) (l : List Nat) (r : List AV), l.length ≤ n → r.length + n ≤ 1073741824 → (∀ x ∈ l, x < ms.length) → Apart ms l → letter ∈ l →
    packX 0 [5] (loopW (bd E0 (ev E0) loopW 0 [1, 2, 5, 6] L60b0) ⟨[(1, i64 letter), (2, .ptr 0 0 0), (5, .sl 1 0 r.length), (6, .sl 2 0 l.length)], [some ⟨26, 1, 0, false, [.agg [.lst 1 (ms.map st)]]⟩, some ⟨3, 1, 1, false, r⟩, some ⟨3, 1, 1, false, i64n l⟩]⟩) = some (.ext 0, ⟨[(5, .sl 0 0 (r.length + (askN ms letter n l).length))], [some ⟨3, 1, 1, false, r ++ i64s (askN ms letter n l)⟩]⟩) := by
  intro n
  induction n with
  | zero =>
    intro l r h _ _ _ hm
    have : l = [] := List.length_eq_zero_iff.1 (by omega)
    rw [this] at hm
    cases hm
  | succ n ih =>
    intro l r h hb hv ha hm
    by_cases h1 : l.length ≤ 1
    · have h2 : ¬ (1 : Int) < (l.length : Int) := by omega
      have h3 : ¬ 1 < l.length := by omega
      have hk : askN ms letter (n + 1) l = [] := by rw [askN, if_pos h1]
      rw [hk, loopW_eq]
      generalize loopW (bd E0 (ev E0) loopW 0 [1, 2, 5, 6] L60b0) = K
      simp -implicitDefEqProofs [bd, L60b0, h2, h3, i64s]
    · have h2 : (1 : Int) < (l.length : Int) := by omega
      have h3 : 1 < l.length := by omega
      have hne : l ≠ [] := by intro e; rw [e] at h3; simp at h3
      obtain ⟨p, hp, hvn⟩ := dep_place ha h3
      have hdep := depth_s ms l.length l (Nat.le_refl _) (by omega) hne hv ha
      have hk : askN ms letter (n + 1) l = (p : Int) :: askN ms letter n (partN ms p (ansN ms p letter) l) := by rw [askN, if_neg h1, hp, Int.toNat_natCast]
      have hps := part_s ms p l (by omega) hv
      have hans := answerN_s ms letter hlt p
      have hih := ih (partN ms p (ansN ms p letter) l) (r ++ [i64 p]) (by have := part_lt (a := ansN ms p letter) hvn; omega) (by simp; omega) (fun x hx => hv x (List.mem_filter.1 hx).1) (ha.part p _) (part_mem hm)
      have h4 : (r.length + 1) * 8 ≤ 140737488355328 := by omega
      have h5 : r.length + 1 ≤ 140737488355328 := by omega
      have h6 : ∀ q : List Int, r.length + ((p : Int) :: q).length = (r ++ [i64 p]).length + q.length := by intro q; simp; omega
      have h7 : ∀ q : List Int, r ++ i64s ((p : Int) :: q) = (r ++ [i64 p]) ++ i64s q := by intro q; simp [i64s_cons]
      rw [hp] at hdep
      generalize (depN ms l.length l).1 = w at hdep
      rw [hk, h6, h7, loopW_eq]
      generalize askN ms letter n (partN ms p (ansN ms p letter) l) = q at hih ⊢
      generalize loopW (bd E0 (ev E0) loopW 0 [1, 2, 5, 6] L60b0) = K at hih ⊢
      rcases ansN_cases ms p letter with e | e | e <;> rw [e] at hans hih <;> simpa -implicitDefEqProofs [bd, L60b0, h2, h3, i64n_len, hdep, hps, hans, h4, h5] using hih
theorem askI_loop (ms : List ByteArray) (letter : Nat) (hlt : letter < ms.length) : ∀ (n : Nat) (l : List Nat) (r : List AV), l.length ≤ n → r.length + n ≤ 1073741824 → (∀ x ∈ l, x < ms.length) → Apart ms l → letter ∈ l →
    packX 0 [5] (loopW (bd E0 (ev E0) loopW 0 [1, 2, 5, 6] L59b0) ⟨[(1, i64 letter), (2, .ptr 0 0 0), (5, .sl 1 0 r.length), (6, .lst 1 (i64n l))], [some ⟨26, 1, 0, false, [.agg [.lst 1 (ms.map st)]]⟩, some ⟨3, 1, 1, false, r⟩]⟩) = some (.ext 0, ⟨[(5, .sl 0 0 (r.length + (askN ms letter n l).length))], [some ⟨3, 1, 1, false, r ++ i64s (askN ms letter n l)⟩]⟩) := by
  intro n
  induction n with
  | zero =>
    intro l r h _ _ _ hm
    have : l = [] := List.length_eq_zero_iff.1 (by omega)
    rw [this] at hm
    cases hm
  | succ n ih =>
    intro l r h hb hv ha hm
    by_cases h1 : l.length ≤ 1
    · have h2 : ¬ (1 : Int) < (l.length : Int) := by omega
      have h3 : ¬ 1 < l.length := by omega
      have hk : askN ms letter (n + 1) l = [] := by rw [askN, if_pos h1]
      rw [hk, loopW_eq]
      generalize loopW (bd E0 (ev E0) loopW 0 [1, 2, 5, 6] L59b0) = K
      simp -implicitDefEqProofs [bd, L59b0, h2, h3, i64s, i64n_len]
    · have h2 : (1 : Int) < (l.length : Int) := by omega
      have h3 : 1 < l.length := by omega
      have hne : l ≠ [] := by intro e; rw [e] at h3; simp at h3
      obtain ⟨p, hp, hvn⟩ := dep_place ha h3
      have hdep := depth_i ms l.length l (Nat.le_refl _) (by omega) hne hv ha
      have hk : askN ms letter (n + 1) l = (p : Int) :: askN ms letter n (partN ms p (ansN ms p letter) l) := by rw [askN, if_neg h1, hp, Int.toNat_natCast]
      have hps := part_i ms p l (by omega) hv
      have hans := answerN_i ms letter hlt p
      have hpm := part_mem (ms := ms) (q := p) hm
      have hih := ih (partN ms p (ansN ms p letter) l) (r ++ [i64 p]) (by have := part_lt (a := ansN ms p letter) hvn; omega) (by simp; omega) (fun x hx => hv x (List.mem_filter.1 hx).1) (ha.part p _) (part_mem hm)
      have h4 : (r.length + 1) * 8 ≤ 140737488355328 := by omega
      have h5 : r.length + 1 ≤ 140737488355328 := by omega
      have h6 : ∀ q : List Int, r.length + ((p : Int) :: q).length = (r ++ [i64 p]).length + q.length := by intro q; simp; omega
      have h7 : ∀ q : List Int, r ++ i64s ((p : Int) :: q) = (r ++ [i64 p]) ++ i64s q := by intro q; simp [i64s_cons]
      rw [hp] at hdep
      generalize (depN ms l.length l).1 = w at hdep
      rw [hk, h6, h7, loopW_eq]
      generalize askN ms letter n (partN ms p (ansN ms p letter) l) = q at hih ⊢
      generalize loopW (bd E0 (ev E0) loopW 0 [1, 2, 5, 6] L59b0) = K at hih ⊢
      rcases ansN_cases ms p letter with e | e | e <;> rw [e] at hans hih hpm <;> generalize partN ms p 0 l = a at * <;> generalize partN ms p 1 l = b at * <;> generalize partN ms p 2 l = c at * <;> cases a <;> cases b <;> cases c <;> first | (cases hpm; done) | (simp only [rows3, rv, rb, List.nil_append, List.cons_append, List.append_nil, List.length_nil, List.length_cons, Nat.zero_add, Nat.add_zero] at hps; simpa -implicitDefEqProofs [bd, L59b0, h2, h3, i64n_len, i64n_cons, hdep, hps, hans, h4, h5] using hih)
/-- The first round: the letters left lie in a row of its own. -/
theorem askI_first (ms : List ByteArray) (letter : Nat) (hlt : letter < ms.length) : ∀ (n : Nat) (l : List Nat) (r : List AV), l.length ≤ n → r.length + n ≤ 1073741824 → (∀ x ∈ l, x < ms.length) → Apart ms l → letter ∈ l →
    packX 0 [5] (loopW (bd E0 (ev E0) loopW 0 [1, 2, 5, 6] L59b0) ⟨[(1, i64 letter), (2, .ptr 0 0 0), (5, .sl 1 0 r.length), (6, .sl 2 0 l.length)], [some ⟨26, 1, 0, false, [.agg [.lst 1 (ms.map st)]]⟩, some ⟨3, 1, 1, false, r⟩, some ⟨3, 1, 1, false, i64n l⟩]⟩) = some (.ext 0, ⟨[(5, .sl 0 0 (r.length + (askN ms letter n l).length))], [some ⟨3, 1, 1, false, r ++ i64s (askN ms letter n l)⟩]⟩) := by
  intro n
  cases n with
  | zero =>
    intro l r h _ _ _ hm
    have : l = [] := List.length_eq_zero_iff.1 (by omega)
    rw [this] at hm
    cases hm
  | succ n =>
    intro l r h hb hv ha hm
    by_cases h1 : l.length ≤ 1
    · have h2 : ¬ (1 : Int) < (l.length : Int) := by omega
      have h3 : ¬ 1 < l.length := by omega
      have hk : askN ms letter (n + 1) l = [] := by rw [askN, if_pos h1]
      rw [hk, loopW_eq]
      generalize loopW (bd E0 (ev E0) loopW 0 [1, 2, 5, 6] L59b0) = K
      simp -implicitDefEqProofs [bd, L59b0, h2, h3, i64s, i64n_len]
    · have h2 : (1 : Int) < (l.length : Int) := by omega
      have h3 : 1 < l.length := by omega
      have hne : l ≠ [] := by intro e; rw [e] at h3; simp at h3
      obtain ⟨p, hp, hvn⟩ := dep_place ha h3
      have hdep := depth_i ms l.length l (Nat.le_refl _) (by omega) hne hv ha
      have hk : askN ms letter (n + 1) l = (p : Int) :: askN ms letter n (partN ms p (ansN ms p letter) l) := by rw [askN, if_neg h1, hp, Int.toNat_natCast]
      have hps := part_i ms p l (by omega) hv
      have hans := answerN_i ms letter hlt p
      have hpm := part_mem (ms := ms) (q := p) hm
      have hih := askI_loop ms letter hlt n (partN ms p (ansN ms p letter) l) (r ++ [i64 p]) (by have := part_lt (a := ansN ms p letter) hvn; omega) (by simp; omega) (fun x hx => hv x (List.mem_filter.1 hx).1) (ha.part p _) (part_mem hm)
      have h4 : (r.length + 1) * 8 ≤ 140737488355328 := by omega
      have h5 : r.length + 1 ≤ 140737488355328 := by omega
      have h6 : ∀ q : List Int, r.length + ((p : Int) :: q).length = (r ++ [i64 p]).length + q.length := by intro q; simp; omega
      have h7 : ∀ q : List Int, r ++ i64s ((p : Int) :: q) = (r ++ [i64 p]) ++ i64s q := by intro q; simp [i64s_cons]
      rw [hp] at hdep
      generalize (depN ms l.length l).1 = w at hdep
      rw [hk, h6, h7, loopW_eq]
      generalize askN ms letter n (partN ms p (ansN ms p letter) l) = q at hih ⊢
      generalize loopW (bd E0 (ev E0) loopW 0 [1, 2, 5, 6] L59b0) = K at hih ⊢
      rcases ansN_cases ms p letter with e | e | e <;> rw [e] at hans hih hpm <;> generalize partN ms p 0 l = a at * <;> generalize partN ms p 1 l = b at * <;> generalize partN ms p 2 l = c at * <;> cases a <;> cases b <;> cases c <;> first | (cases hpm; done) | (simp only [rows3, rv, rb, List.nil_append, List.cons_append, List.append_nil, List.length_nil, List.length_cons, Nat.zero_add, Nat.add_zero] at hps; simpa -implicitDefEqProofs [bd, L59b0, h2, h3, i64n_len, i64n_cons, hdep, hps, hans, h4, h5] using hih)
/-- What both give. -/
theorem ask_s (ms : List ByteArray) (hm : ms.length ≤ 8796093022208) (h1 : okTable ms = true) (letter : Nat) (hlt : letter < ms.length) : ev E0 60 [.agg [.lst 1 (ms.map st)], i64 letter] [] = some (.sl 0 0 (askN ms letter ms.length (allL ms.length 0)).length, [some ⟨3, 1, 1, false, i64s (askN ms letter ms.length (allL ms.length 0))⟩]) := by
  rw [e60]
  unfold runF
  have b := okTable_len h1
  have hv : ∀ x ∈ allL ms.length 0, x < ms.length := fun x hx => by have := (allL_mem ms.length 0 x).1 hx; omega
  have hl := askS_loop ms letter hlt ms.length (allL ms.length 0) [] (by rw [allL_len]; exact Nat.le_refl _) (by simp; omega) hv (apart_of h1 (allL_pair _ _) hv) ((allL_mem _ _ _).2 (by omega))
  rw [List.nil_append, List.length_nil, Nat.zero_add] at hl
  simp -implicitDefEqProofs [L60, all_s ms hm, hl]
theorem ask_i (ms : List ByteArray) (hm : ms.length ≤ 8796093022208) (h1 : okTable ms = true) (letter : Nat) (hlt : letter < ms.length) : ev E0 59 [.agg [.lst 1 (ms.map st)], i64 letter] [] = some (.sl 0 0 (askN ms letter ms.length (allL ms.length 0)).length, [some ⟨3, 1, 1, false, i64s (askN ms letter ms.length (allL ms.length 0))⟩]) := by
  rw [e59]
  unfold runF
  have b := okTable_len h1
  have hv : ∀ x ∈ allL ms.length 0, x < ms.length := fun x hx => by have := (allL_mem ms.length 0 x).1 hx; omega
  have hl := askI_first ms letter hlt ms.length (allL ms.length 0) [] (by rw [allL_len]; exact Nat.le_refl _) (by simp; omega) hv (apart_of h1 (allL_pair _ _) hv) ((allL_mem _ _ _).2 (by omega))
  rw [List.nil_append, List.length_nil, Nat.zero_add] at hl
  simp -implicitDefEqProofs [L59, all_i ms hm, hl]
theorem askedFor_yes (ms : List ByteArray) (hm : ms.length ≤ 8796093022208) (hs : ∀ x ∈ ms, x.size ≤ 140737488355328) (k : Int) (h1 : okTable ms = true) (h2 : okLetter ms k = true) : ∃ r : List Int, r.length ≤ ms.length ∧
    ev E0 34 [.agg [.lst 1 (ms.map st)], i64 k] [] = some (.tup [.sl 0 0 r.length, bl true], [some ⟨3, 1, 1, false, i64s r⟩]) ∧
    ev E0 33 [.agg [.lst 1 (ms.map st)], i64 k] [] = some (.tup [.sl 0 0 r.length, bl true], [some ⟨3, 1, 1, false, i64s r⟩]) := by
  have t1 := letter_s ms (by omega) hs k
  have t2 := table_i ms (by omega) hs
  have t3 := letter_i ms (by omega) k
  rw [h1, h2] at t1
  rw [h1] at t2
  rw [h2] at t3
  obtain ⟨b1, b2⟩ := okLetter_bounds h2
  obtain ⟨i, rfl⟩ : ∃ i : Nat, k = i := ⟨k.toNat, by omega⟩
  have hi : i < ms.length := by omega
  have a1 := ask_s ms hm h1 i hi
  have a2 := ask_i ms hm h1 i hi
  have hlen := askN_len ms i ms.length (allL ms.length 0)
  generalize askN ms i ms.length (allL ms.length 0) = r at *
  refine ⟨r, hlen, ?_, ?_⟩
  · rw [e34]
    unfold runF
    simp -implicitDefEqProofs [L34, t1, a1]
  · rw [e33]
    unfold runF
    simp -implicitDefEqProofs [L33, t2, t3, a2]
theorem askedFor_no (ms : List ByteArray) (hm : ms.length ≤ 8796093022208) (hs : ∀ x ∈ ms, x.size ≤ 140737488355328) (k : Int) (h : (okTable ms && okLetter ms k) = false) :
    ev E0 34 [.agg [.lst 1 (ms.map st)], i64 k] [] = some (.tup [.sl 0 0 0, bl false], [some ⟨3, 1, 1, false, []⟩]) ∧
    ev E0 33 [.agg [.lst 1 (ms.map st)], i64 k] [] = some (.tup [.v (.slice none 0 0), bl false], []) := by
  have t1 := letter_s ms (by omega) hs k
  have t2 := table_i ms (by omega) hs
  have t3 := letter_i ms (by omega) k
  rw [h] at t1
  rw [e34, e33]
  unfold runF
  constructor
  · simp -implicitDefEqProofs [L34, t1]
  · cases h1 : okTable ms with
    | false =>
      rw [h1] at t2
      simp -implicitDefEqProofs [L33, t2]
    | true =>
      rw [h1, Bool.true_and] at h
      rw [h1] at t2
      rw [h] at t3
      simp -implicitDefEqProofs [L33, t2, t3]
end Go.Proofs.YtkajcafnfdlgpaaDoor.Ev
