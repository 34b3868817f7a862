/- Joined letters, split letters, safe subsets: the program's and the reference's. -/
import Derived.Test.YtodcochnciadjaaDoorEvMi5
set_option linter.unusedVariables false
set_option linter.unusedSimpArgs false
namespace Go.Proofs.YtodcochnciadjaaDoor.Ev
/-- Three numbers in a row. -/
def tr3 (p : Nat × Nat × Nat) : AV := .agg [i64 (p.1 : Int), i64 (p.2.1 : Int), i64 (p.2.2 : Int)]
def tr3s (l : List (Nat × Nat × Nat)) : List AV := l.map tr3
def jb3 (l : List (Nat × Nat × Nat)) : Blk := ⟨46, 3, 1, false, tr3s l⟩
theorem tr3s_len (l : List (Nat × Nat × Nat)) : (tr3s l).length = l.length := by simp [tr3s]
theorem tr3s_app (l : List (Nat × Nat × Nat)) (i j k : Nat) : tr3s l ++ [.agg [i64 (i : Int), i64 (j : Int), i64 (k : Int)]] = tr3s (l ++ [(i, j, k)]) := by simp [tr3s, tr3]
def jn (ms : List ByteArray) (i j : Nat) : List (Nat × Nat × Nat) := if 0 ≤ place (mk_ ms i ++ mk_ ms j) ms 0 then [(i, j, (place (mk_ ms i ++ mk_ ms j) ms 0).toNat)] else []
def jn0 (ms : List ByteArray) (i : Nat) : Nat → Nat → List (Nat × Nat × Nat)
  | 0, _ => []
  | r + 1, j => jn ms i j ++ jn0 ms i r (j + 1)
def jn1 (ms : List ByteArray) : Nat → Nat → List (Nat × Nat × Nat)
  | 0, _ => []
  | r + 1, i => jn0 ms i ms.length 0 ++ jn1 ms r (i + 1)
theorem jn_len (ms : List ByteArray) (i j : Nat) : (jn ms i j).length ≤ 1 := by unfold jn; split <;> simp
theorem jn0_len (ms : List ByteArray) (i : Nat) : ∀ (r j : Nat), (jn0 ms i r j).length ≤ r
  | 0, _ => by simp [jn0]
  | r + 1, j => by
    have h1 := jn_len ms i j
    have h2 := jn0_len ms i r (j + 1)
    rw [jn0, List.length_append]
    omega
theorem jn1_len (ms : List ByteArray) (hm : ms.length ≤ 1000) : ∀ (r i : Nat), (jn1 ms r i).length ≤ r * 1000
  | 0, _ => by simp [jn1]
  | r + 1, i => by
    have h1 := jn0_len ms i ms.length 0
    have h2 := jn1_len ms hm r (i + 1)
    rw [jn1, List.length_append]
    omega
theorem joiS0 (ms : List ByteArray) (hm : ms.length ≤ 1000) (hz : ∀ m ∈ ms, m.size ≤ 400) (i : Nat) (hi : i < ms.length) : ∀ (r k : Nat) (l : List (Nat × Nat × Nat)), k + r = ms.length → l.length + r ≤ 2000000 →
    packX 0 [1, 3, 4] (loopW (bd E0 (ev E0) loopW 0 [1, 3, 4, 5] L64b0) ⟨[(1, .ptr 0 0 0), (3, .sl 1 0 l.length), (4, i64 i), (5, i64 k)], [some (tb ms), some (jb3 l)]⟩) =
      some (.ext 2, ⟨[(1, .ptr 0 0 0), (3, .sl 1 0 (l ++ jn0 ms i r k).length), (4, i64 i)], [some (tb ms), some (jb3 (l ++ jn0 ms i r k))]⟩) := by
  unfold tb jb3
  intro r
  induction r with
  | zero =>
    intro k l h hl
    obtain rfl : k = ms.length := by omega
    rw [loopW_eq]
    generalize loopW (bd E0 (ev E0) loopW 0 [1, 3, 4, 5] L64b0) = K
    simp -implicitDefEqProofs [bd, L64b0, jn0]
  | succ r ih =>
    intro k l h hl
    have hk : k < ms.length := by omega
    have hki : (k : Int) < (ms.length : Int) := by omega
    have hii : (i : Int) < (ms.length : Int) := by omega
    have h1 := get_mk hi
    have h2 := get_mk hk
    have m1 := mk_at hi
    have m2 := mk_at hk
    have z1 := mk_sz hz i
    have z2 := mk_sz hz k
    have hp := place_s ms (by omega) (mk_ ms i ++ mk_ ms k)
    have hsz : (mk_ ms i).size + (mk_ ms k).size ≤ 9223372036854775807 := by omega
    have hw : IntKind.i64.wrap ((k : Int) + 1) = (k : Int) + 1 := wr64 (by omega) (by omega)
    have l1 : l.length + 1 ≤ 140737488355328 := by omega
    have l2 : (l.length + 1) * 24 ≤ 140737488355328 := by omega
    have ht : List.take l.length (tr3s l) = tr3s l := List.take_of_length_le (by rw [tr3s_len]; exact Nat.le_refl _)
    have hnl := tr3s_len l
    rw [jn0]
    unfold jn
    by_cases c1 : 0 ≤ place (mk_ ms i ++ mk_ ms k) ms 0
    · obtain ⟨n, hn⟩ : ∃ n : Nat, place (mk_ ms i ++ mk_ ms k) ms 0 = n := ⟨(place (mk_ ms i ++ mk_ ms k) ms 0).toNat, by omega⟩
      have ha := tr3s_app l i k n
      have hih := ih (k + 1) (l ++ [(i, k, n)]) (by omega) (by simp; omega)
      rw [if_pos c1, hn, Int.toNat_natCast, List.singleton_append, List.append_cons l, loopW_eq]
      rw [hn] at hp
      clear ih c1 hn
      generalize (l ++ [(i, k, n)]) ++ jn0 _ _ _ _ = R at hih ⊢
      generalize mk_ ms i = a at *
      generalize mk_ ms k = b at *
      rw [cs1, ← ha, List.length_append, List.length_singleton] at hih
      generalize loopW (bd E0 (ev E0) loopW 0 [1, 3, 4, 5] L64b0) = K at hih ⊢
      generalize tr3s l = nl at *
      simpa -implicitDefEqProofs [bd, L64b0, -ByteArray.size_append, hi, hk, hki, hii, h1, h2, m1, m2, hp, hsz, hw, l1, l2, ht, hnl] using hih
    · have hih := ih (k + 1) l (by omega) (by omega)
      rw [if_neg c1, List.nil_append, loopW_eq]
      generalize l ++ jn0 _ _ _ _ = R at hih ⊢
      generalize place (mk_ ms i ++ mk_ ms k) ms 0 = n at *
      clear ih
      generalize mk_ ms i = a at *
      generalize mk_ ms k = b at *
      rw [cs1] at hih
      generalize loopW (bd E0 (ev E0) loopW 0 [1, 3, 4, 5] L64b0) = K at hih ⊢
      generalize tr3s l = nl at *
      simpa -implicitDefEqProofs [bd, L64b0, -ByteArray.size_append, hi, hk, hki, hii, h1, h2, m1, m2, hp, hsz, hw, c1] using hih
theorem joiS1 (ms : List ByteArray) (hm : ms.length ≤ 1000) (hz : ∀ m ∈ ms, m.size ≤ 400) : ∀ (r i : Nat) (l : List (Nat × Nat × Nat)), i + r = ms.length → l.length ≤ i * 1000 →
    packX 0 [3] (loopW (bd E0 (ev E0) loopW 0 [1, 3, 4] L64b1) ⟨[(1, .ptr 0 0 0), (3, .sl 1 0 l.length), (4, i64 i)], [some (tb ms), some (jb3 l)]⟩) =
      some (.ext 0, ⟨[(3, .sl 0 0 (l ++ jn1 ms r i).length)], [some (jb3 (l ++ jn1 ms r i))]⟩) := by
  intro r
  induction r with
  | zero =>
    intro i l h hl
    obtain rfl : i = ms.length := by omega
    unfold tb jb3
    rw [loopW_eq]
    generalize loopW (bd E0 (ev E0) loopW 0 [1, 3, 4] L64b1) = K
    unfold bd
    simp -implicitDefEqProofs [L64b1, jn1]
  | succ r ih =>
    intro i l h hl
    have hi : i < ms.length := by omega
    have hi2 : (i : Int) < (ms.length : Int) := by omega
    have hin := joiS0 ms hm hz i hi ms.length 0 l (by omega) (by omega)
    have hw : IntKind.i64.wrap ((i : Int) + 1) = (i : Int) + 1 := wr64 (by omega) (by omega)
    have hfl := jn0_len ms i ms.length 0
    rw [jn1, ← List.append_assoc]
    have hlen : (l ++ jn0 ms i ms.length 0).length ≤ (i + 1) * 1000 := by rw [List.length_append]; omega
    generalize l ++ jn0 ms i ms.length 0 = l' at *
    have hih := ih (i + 1) l' (by omega) hlen
    generalize l' ++ jn1 _ _ _ = R at hih ⊢
    rw [cs1] at hih
    rw [c0] at hin
    unfold tb jb3 at hin hih ⊢
    rw [loopW_eq]
    generalize loopW (bd E0 (ev E0) loopW 0 [1, 3, 4] L64b1) = K at hih ⊢
    unfold bd
    simpa -implicitDefEqProofs [L64b1, hi, hi2, hin, hw] using hih
/-- All joined letters. -/
def jns (ms : List ByteArray) : List (Nat × Nat × Nat) := jn1 ms ms.length 0
theorem jns_len (ms : List ByteArray) (hm : ms.length ≤ 1000) : (jns ms).length ≤ 1000000 := by
  have := jn1_len ms hm ms.length 0
  unfold jns
  omega
theorem joined_l (ms : List ByteArray) (hm : ms.length ≤ 1000) (hz : ∀ m ∈ ms, m.size ≤ 400) : ev E0 64 [.agg [.lst 1 (ms.map st)]] [] = some (.sl 0 0 (jns ms).length, [some (jb3 (jns ms))]) := by
  have h := joiS1 ms hm hz ms.length 0 [] (by omega) (by simp)
  rw [c0, List.nil_append, List.length_nil] at h
  change _ = some (Ex.ext 0, (⟨[(3, .sl 0 0 (jns ms).length)], [some (jb3 (jns ms))]⟩ : St)) at h
  generalize jns ms = R at *
  unfold jb3 tb at *
  rw [show tr3s [] = [] from rfl] at h
  rw [e64]
  unfold runF
  simp -implicitDefEqProofs [L64, h]
theorem joined_s (ms : List ByteArray) (hm : ms.length ≤ 1000) (hz : ∀ m ∈ ms, m.size ≤ 400) : ev E0 23 [.agg [.lst 1 (ms.map st)]] [] = if okTable ms = true then some (.tup [.sl 0 0 (jns ms).length, bl true], [some (jb3 (jns ms))]) else some (.tup [.sl 0 0 0, bl false], [some (jb3 [])]) := by
  have h := joined_l ms hm hz
  have h1 := table_s ms (by omega) (fun x hx => by have := hz x hx; omega)
  have hn : tr3s [] = [] := rfl
  generalize jns ms = R at *
  unfold jb3 at *
  rw [e23]
  unfold runF
  cases ho : okTable ms <;> rw [ho] at h1 <;> simp -implicitDefEqProofs [L23, h, h1, hn]
theorem joiI0 (ms : List ByteArray) (hm : ms.length ≤ 1000) (hz : ∀ m ∈ ms, m.size ≤ 400) (i : Nat) (hi : i < ms.length) : ∀ (r k : Nat) (l : List (Nat × Nat × Nat)), k + r = ms.length → l.length + r ≤ 2000000 →
    packX 0 [1, 4, 15, 16, 17] (loopW (bd E0 (ev E0) loopW 0 [1, 4, 5, 6, 15, 16, 17, 23, 24, 25] L22b0) ⟨[(1, .ptr 0 0 0), (4, .sl 1 0 l.length), (5, i64 i), (6, st (mk_ ms i)), (15, .lst 1 (ms.map st)), (16, i64 ms.length), (17, i64 i), (23, .lst 1 (ms.map st)), (24, i64 ms.length), (25, i64 k)], [some (tb ms), some (jb3 l)]⟩) =
      some (.ext 2, ⟨[(1, .ptr 0 0 0), (4, .sl 1 0 (l ++ jn0 ms i r k).length), (15, .lst 1 (ms.map st)), (16, i64 ms.length), (17, i64 i)], [some (tb ms), some (jb3 (l ++ jn0 ms i r k))]⟩) := by
  unfold tb jb3
  intro r
  induction r with
  | zero =>
    intro k l h hl
    obtain rfl : k = ms.length := by omega
    rw [loopW_eq]
    generalize loopW (bd E0 (ev E0) loopW 0 [1, 4, 5, 6, 15, 16, 17, 23, 24, 25] L22b0) = K
    simp -implicitDefEqProofs [bd, L22b0, jn0]
  | succ r ih =>
    intro k l h hl
    have hk : k < ms.length := by omega
    have hki : (k : Int) < (ms.length : Int) := by omega
    have h2 := get_mk hk
    have m2 := mk_at hk
    have z1 := mk_sz hz i
    have z2 := mk_sz hz k
    have hp := index_s ms (by omega) (mk_ ms i ++ mk_ ms k)
    have hsz : (mk_ ms i).size + (mk_ ms k).size ≤ 9223372036854775807 := by omega
    have hw : IntKind.i64.wrap ((k : Int) + 1) = (k : Int) + 1 := wr64 (by omega) (by omega)
    have l1 : l.length + 1 ≤ 140737488355328 := by omega
    have l2 : (l.length + 1) * 24 ≤ 140737488355328 := by omega
    have ht : List.take l.length (tr3s l) = tr3s l := List.take_of_length_le (by rw [tr3s_len]; exact Nat.le_refl _)
    have hnl := tr3s_len l
    rw [jn0]
    unfold jn
    by_cases c1 : 0 ≤ place (mk_ ms i ++ mk_ ms k) ms 0
    · obtain ⟨n, hn⟩ : ∃ n : Nat, place (mk_ ms i ++ mk_ ms k) ms 0 = n := ⟨(place (mk_ ms i ++ mk_ ms k) ms 0).toNat, by omega⟩
      have ha := tr3s_app l i k n
      have hih := ih (k + 1) (l ++ [(i, k, n)]) (by omega) (by simp; omega)
      rw [if_pos c1, hn, Int.toNat_natCast, List.singleton_append, List.append_cons l, loopW_eq]
      rw [hn] at hp
      clear ih c1 hn
      generalize (l ++ [(i, k, n)]) ++ jn0 _ _ _ _ = R at hih ⊢
      generalize mk_ ms i = a at *
      generalize mk_ ms k = b at *
      rw [cs1, ← ha, List.length_append, List.length_singleton] at hih
      generalize loopW (bd E0 (ev E0) loopW 0 [1, 4, 5, 6, 15, 16, 17, 23, 24, 25] L22b0) = K at hih ⊢
      generalize tr3s l = nl at *
      simpa -implicitDefEqProofs [bd, L22b0, -ByteArray.size_append, hk, hki, h2, m2, hp, hsz, hw, l1, l2, ht, hnl] using hih
    · have hih := ih (k + 1) l (by omega) (by omega)
      rw [if_neg c1, List.nil_append, loopW_eq]
      generalize l ++ jn0 _ _ _ _ = R at hih ⊢
      generalize place (mk_ ms i ++ mk_ ms k) ms 0 = n at *
      clear ih
      generalize mk_ ms i = a at *
      generalize mk_ ms k = b at *
      rw [cs1] at hih
      generalize loopW (bd E0 (ev E0) loopW 0 [1, 4, 5, 6, 15, 16, 17, 23, 24, 25] L22b0) = K at hih ⊢
      generalize tr3s l = nl at *
      simpa -implicitDefEqProofs [bd, L22b0, -ByteArray.size_append, hk, hki, h2, m2, hp, hsz, hw, c1] using hih
theorem joiI1 (ms : List ByteArray) (hm : ms.length ≤ 1000) (hz : ∀ m ∈ ms, m.size ≤ 400) : ∀ (r i : Nat) (l : List (Nat × Nat × Nat)), i + r = ms.length → l.length ≤ i * 1000 →
    packX 0 [4] (loopW (bd E0 (ev E0) loopW 0 [1, 4, 15, 16, 17] L22b1) ⟨[(1, .ptr 0 0 0), (4, .sl 1 0 l.length), (15, .lst 1 (ms.map st)), (16, i64 ms.length), (17, i64 i)], [some (tb ms), some (jb3 l)]⟩) =
      some (.ext 0, ⟨[(4, .sl 0 0 (l ++ jn1 ms r i).length)], [some (jb3 (l ++ jn1 ms r i))]⟩) := by
  intro r
  induction r with
  | zero =>
    intro i l h hl
    obtain rfl : i = ms.length := by omega
    unfold tb jb3
    rw [loopW_eq]
    generalize loopW (bd E0 (ev E0) loopW 0 [1, 4, 15, 16, 17] L22b1) = K
    unfold bd
    simp -implicitDefEqProofs [L22b1, jn1]
  | succ r ih =>
    intro i l h hl
    have hi : i < ms.length := by omega
    have hi2 : (i : Int) < (ms.length : Int) := by omega
    have hin := joiI0 ms hm hz i hi ms.length 0 l (by omega) (by omega)
    have h2 := get_mk hi
    have m2 := mk_at hi
    have hw : IntKind.i64.wrap ((i : Int) + 1) = (i : Int) + 1 := wr64 (by omega) (by omega)
    have hfl := jn0_len ms i ms.length 0
    rw [jn1, ← List.append_assoc]
    have hlen : (l ++ jn0 ms i ms.length 0).length ≤ (i + 1) * 1000 := by rw [List.length_append]; omega
    generalize l ++ jn0 ms i ms.length 0 = l' at *
    have hih := ih (i + 1) l' (by omega) hlen
    generalize l' ++ jn1 _ _ _ = R at hih ⊢
    generalize mk_ ms i = a at *
    rw [cs1] at hih
    rw [c0] at hin
    unfold tb jb3 at hin hih ⊢
    rw [loopW_eq]
    generalize loopW (bd E0 (ev E0) loopW 0 [1, 4, 15, 16, 17] L22b1) = K at hih ⊢
    unfold bd
    simpa -implicitDefEqProofs [L22b1, hi, hi2, h2, m2, hin, hw] using hih
theorem joined_i (ms : List ByteArray) (hm : ms.length ≤ 1000) (hz : ∀ m ∈ ms, m.size ≤ 400) : ev E0 22 [.agg [.lst 1 (ms.map st)]] [] = if okTable ms = true then some (.tup [.sl 0 0 (jns ms).length, bl true], [some (jb3 (jns ms))]) else some (.tup [.v (.slice none 0 0), bl false], []) := by
  have h := joiI1 ms hm hz ms.length 0 [] (by omega) (by simp)
  rw [c0, List.nil_append, List.length_nil] at h
  change _ = some (Ex.ext 0, (⟨[(4, .sl 0 0 (jns ms).length)], [some (jb3 (jns ms))]⟩ : St)) at h
  have h1 := table_i ms (by omega) (fun x hx => by have := hz x hx; omega)
  generalize jns ms = R at *
  unfold jb3 tb at *
  rw [show tr3s [] = [] from rfl] at h
  rw [e22]
  unfold runF
  cases ho : okTable ms <;> rw [ho] at h1 <;> simp -implicitDefEqProofs [L22, h, h1]
-- ---------------------------------------------------------------- split letters
def spL (c : Int) (l : List (Nat × Nat × Nat)) : List (Nat × Nat) := (l.filter (fun p => decide ((p.2.2 : Int) = c))).map (fun p => (p.1, p.2.1))
theorem spL_cons (c : Int) (p : Nat × Nat × Nat) (t : List (Nat × Nat × Nat)) : spL c (p :: t) = if (p.2.2 : Int) = c then (p.1, p.2.1) :: spL c t else spL c t := by
  unfold spL
  rw [List.filter_cons]
  by_cases h : (p.2.2 : Int) = c
  · rw [if_pos h, if_pos (decide_eq_true h)]; rfl
  · rw [if_neg h, if_neg (fun e => h (of_decide_eq_true e))]
theorem spL_len (c : Int) (l : List (Nat × Nat × Nat)) : (spL c l).length ≤ l.length := by
  unfold spL
  rw [List.length_map]
  exact List.length_filter_le ..
theorem get_tr {J : List (Nat × Nat × Nat)} {i : Nat} {p : Nat × Nat × Nat} (hi : i < J.length) (hx : J[i] = p) : (tr3s J)[i]? = some (.agg [i64 (p.1 : Int), i64 (p.2.1 : Int), i64 (p.2.2 : Int)]) := by
  unfold tr3s
  rw [List.getElem?_map, List.getElem?_eq_getElem hi, hx]
  rfl
theorem spI (J : List (Nat × Nat × Nat)) (hJ : J.length ≤ 1000000) (c : Int) : ∀ (t : List (Nat × Nat × Nat)) (i : Nat) (l : List (Nat × Nat)), J.drop i = t → l.length ≤ i →
    packX 0 [8] (loopW (bd E0 (ev E0) loopW 0 [1, 8, 25, 26, 27] L25b0) ⟨[(1, i64 c), (8, .sl 0 0 l.length), (25, .sl 1 0 J.length), (26, i64 J.length), (27, i64 i)], [some (pb l), some (jb3 J)]⟩) =
      some (.ext 0, ⟨[(8, .sl 0 0 (l ++ spL c t).length)], [some (pb (l ++ spL c t))]⟩) := by
  unfold pb jb3
  intro t
  induction t with
  | nil =>
    intro i l h _
    have hi := not_drop h
    have hii : ¬ (i : Int) < (J.length : Int) := by omega
    rw [loopW_eq]
    generalize loopW (bd E0 (ev E0) loopW 0 [1, 8, 25, 26, 27] L25b0) = K
    simp -implicitDefEqProofs [bd, L25b0, hi, hii, spL]
  | cons p t ih =>
    intro i l h hl
    obtain ⟨hi, hx, hd, hmem⟩ := at_drop h
    obtain ⟨a, b, d⟩ := p
    have hii : (i : Int) < (J.length : Int) := by omega
    have hg := get_tr hi hx
    have hlt := tr3s_len J
    have hg2 : ∀ h, (tr3s J)[i]'h = .agg [i64 (a : Int), i64 (b : Int), i64 (d : Int)] := fun h => (List.getElem?_eq_some_iff.1 hg).2
    have hw : IntKind.i64.wrap ((i : Int) + 1) = (i : Int) + 1 := wr64 (by omega) (by omega)
    have l1 : l.length + 1 ≤ 140737488355328 := by omega
    have l2 : (l.length + 1) * 16 ≤ 140737488355328 := by omega
    have ht : List.take l.length (prs l) = prs l := List.take_of_length_le (by rw [prs_len]; exact Nat.le_refl _)
    have hnl := prs_len l
    have ha := prs_app l a b
    rw [spL_cons]
    dsimp only at hg hg2 ⊢
    by_cases c1 : (d : Int) = c
    · have hih := ih (i + 1) (l ++ [(a, b)]) hd (by simp; omega)
      rw [if_pos c1, loopW_eq, List.append_cons l]
      generalize (l ++ [(a, b)]) ++ spL _ _ = R at hih ⊢
      rw [cs1, ← ha, List.length_append, List.length_singleton] at hih
      generalize loopW (bd E0 (ev E0) loopW 0 [1, 8, 25, 26, 27] L25b0) = K at hih ⊢
      clear ih
      generalize prs l = nl at *
      generalize tr3s J = nJ at *
      simpa -implicitDefEqProofs [bd, L25b0, hi, hii, hg, hg2, hlt, c1, hw, l1, l2, ht, hnl] using hih
    · have hih := ih (i + 1) l hd (by omega)
      rw [if_neg c1, loopW_eq]
      generalize l ++ spL _ _ = R at hih ⊢
      rw [cs1] at hih
      generalize loopW (bd E0 (ev E0) loopW 0 [1, 8, 25, 26, 27] L25b0) = K at hih ⊢
      clear ih
      generalize prs l = nl at *
      generalize tr3s J = nJ at *
      simpa -implicitDefEqProofs [bd, L25b0, hi, hii, hg, hg2, hlt, c1, hw] using hih
theorem spS (J : List (Nat × Nat × Nat)) (hJ : J.length ≤ 1000000) (c : Int) : ∀ (t : List (Nat × Nat × Nat)) (i : Nat) (l : List (Nat × Nat)), J.drop i = t → l.length ≤ i →
    packX 0 [6] (loopW (bd E0 (ev E0) loopW 0 [1, 6, 7, 8] L26b0) ⟨[(1, i64 c), (6, .sl 0 0 l.length), (7, .sl 1 0 J.length), (8, i64 i)], [some (pb l), some (jb3 J)]⟩) =
      some (.ext 0, ⟨[(6, .sl 0 0 (l ++ spL c t).length)], [some (pb (l ++ spL c t))]⟩) := by
  unfold pb jb3
  intro t
  induction t with
  | nil =>
    intro i l h _
    have hi := not_drop h
    have hii : ¬ (i : Int) < (J.length : Int) := by omega
    rw [loopW_eq]
    generalize loopW (bd E0 (ev E0) loopW 0 [1, 6, 7, 8] L26b0) = K
    simp -implicitDefEqProofs [bd, L26b0, hi, hii, spL]
  | cons p t ih =>
    intro i l h hl
    obtain ⟨hi, hx, hd, hmem⟩ := at_drop h
    obtain ⟨a, b, d⟩ := p
    have hii : (i : Int) < (J.length : Int) := by omega
    have hg := get_tr hi hx
    have hlt := tr3s_len J
    have hg2 : ∀ h, (tr3s J)[i]'h = .agg [i64 (a : Int), i64 (b : Int), i64 (d : Int)] := fun h => (List.getElem?_eq_some_iff.1 hg).2
    have hw : IntKind.i64.wrap ((i : Int) + 1) = (i : Int) + 1 := wr64 (by omega) (by omega)
    have l1 : l.length + 1 ≤ 140737488355328 := by omega
    have l2 : (l.length + 1) * 16 ≤ 140737488355328 := by omega
    have ht : List.take l.length (prs l) = prs l := List.take_of_length_le (by rw [prs_len]; exact Nat.le_refl _)
    have hnl := prs_len l
    have ha := prs_app l a b
    rw [spL_cons]
    dsimp only at hg hg2 ⊢
    by_cases c1 : (d : Int) = c
    · have hih := ih (i + 1) (l ++ [(a, b)]) hd (by simp; omega)
      rw [if_pos c1, loopW_eq, List.append_cons l]
      generalize (l ++ [(a, b)]) ++ spL _ _ = R at hih ⊢
      rw [cs1, ← ha, List.length_append, List.length_singleton] at hih
      generalize loopW (bd E0 (ev E0) loopW 0 [1, 6, 7, 8] L26b0) = K at hih ⊢
      clear ih
      generalize prs l = nl at *
      generalize tr3s J = nJ at *
      simpa -implicitDefEqProofs [bd, L26b0, hi, hii, hg, hg2, hlt, c1, hw, l1, l2, ht, hnl] using hih
    · have hih := ih (i + 1) l hd (by omega)
      rw [if_neg c1, loopW_eq]
      generalize l ++ spL _ _ = R at hih ⊢
      rw [cs1] at hih
      generalize loopW (bd E0 (ev E0) loopW 0 [1, 6, 7, 8] L26b0) = K at hih ⊢
      clear ih
      generalize prs l = nl at *
      generalize tr3s J = nJ at *
      simpa -implicitDefEqProofs [bd, L26b0, hi, hii, hg, hg2, hlt, c1, hw] using hih
theorem split6_i (ms : List ByteArray) (hm : ms.length ≤ 1000) (hz : ∀ m ∈ ms, m.size ≤ 400) (c : Int) : ev E0 25 [.agg [.lst 1 (ms.map st)], i64 c] [] = if (okTable ms && okLetter ms c) = true then some (.tup [.sl 0 0 (spL c (jns ms)).length, bl true], [some (pb (spL c (jns ms)))]) else some (.tup [.v (.slice none 0 0), bl false], []) := by
  have h := joined_i ms hm hz
  have h2 := letter_i ms (by omega) c
  have hl := spI (jns ms) (jns_len ms hm) c (jns ms) 0 [] rfl (by simp)
  rw [c0, List.nil_append, List.length_nil] at hl
  generalize spL c (jns ms) = R at *
  generalize jns ms = J at *
  unfold jb3 pb at *
  rw [show prs [] = [] from rfl] at hl
  rw [e25]
  unfold runF
  cases ho : okTable ms <;> rw [ho] at h <;> cases hc : okLetter ms c <;> rw [hc] at h2 <;> simp -implicitDefEqProofs [L25, h, h2, hl]
theorem split6_s (ms : List ByteArray) (hm : ms.length ≤ 1000) (hz : ∀ m ∈ ms, m.size ≤ 400) (c : Int) : ev E0 26 [.agg [.lst 1 (ms.map st)], i64 c] [] = if (okTable ms && okLetter ms c) = true then some (.tup [.sl 0 0 (spL c (jns ms)).length, bl true], [some (pb (spL c (jns ms)))]) else some (.tup [.sl 0 0 0, bl false], [some (pb [])]) := by
  have h := joined_l ms hm hz
  have h2 := l6letter_s ms hm hz c
  have hl := spS (jns ms) (jns_len ms hm) c (jns ms) 0 [] rfl (by simp)
  rw [c0, List.nil_append, List.length_nil] at hl
  generalize spL c (jns ms) = R at *
  generalize jns ms = J at *
  unfold jb3 pb at *
  have hn : prs [] = [] := rfl
  rw [hn] at hl
  rw [e26]
  unfold runF
  cases ho : (okTable ms && okLetter ms c) <;> rw [ho] at h2 <;> simp -implicitDefEqProofs [L26, h, h2, hl, hn]
end Go.Proofs.YtodcochnciadjaaDoor.Ev
