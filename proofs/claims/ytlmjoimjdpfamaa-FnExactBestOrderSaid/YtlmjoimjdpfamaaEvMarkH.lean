/- Rows of hops held against their marks, and nothing in place of them; rows of numbers copied. -/
import Derived.Test.YtlmjoimjdpfamaaEvMarkI
set_option linter.unusedVariables false
set_option linter.unusedSimpArgs false
namespace Go.Proofs.Ytlmjoimjdpfamaa.Ev.Mk
theorem seq_hops_len : ∀ (n : Nat) (c : Int), (seq_hops c n).length = n
  | 0, c => rfl
  | n + 1, c => by rw [seq_hops, List.length_cons, seq_hops_len n]
theorem heldH_loop (l : List Hh) (hm : l.length ≤ 140737488355328) : ∀ (t : List Hh) (i : Nat) (c : Int), l.drop i = t → t = seq_hops c t.length → 0 ≤ c → c + 3 * t.length ≤ 281474976710656 →
    packX 0 [1, 4] (loopW (bd E0 (ev E0) loopW 0 [0, 1, 5] L22b0) ⟨[(0, .lst 3 (l.map hp)), (1, i64 c), (5, i64 i)], []⟩) = some (.ext 0, ⟨[(1, i64 (c + 3 * t.length))], []⟩) := by
  intro t
  induction t with
  | nil =>
    intro i c h _ _ _
    have hi := not_drop h
    rw [loopW_eq]
    generalize loopW (bd E0 (ev E0) loopW 0 [0, 1, 5] L22b0) = K
    simp -implicitDefEqProofs [bd, L22b0, hi]
  | cons y t ih =>
    intro i c h hs h0 h1
    obtain ⟨hi, hx, hd, hmem⟩ := at_drop h
    rw [List.length_cons, seq_hops] at hs
    obtain ⟨rfl, hs2⟩ := List.cons.inj hs
    rw [List.length_cons] at h1
    have hih := ih (i + 1) (c + 3) hd hs2 (by omega) (by omega)
    rw [cs1] at hih
    have hw : IntKind.i64.wrap ((i : Int) + 1) = (i : Int) + 1 := wr64 (by omega) (by omega)
    have w1 : IntKind.i64.wrap (c + 1) = c + 1 := wr64 (by omega) (by omega)
    have w2 : IntKind.i64.wrap (c + 2) = c + 2 := wr64 (by omega) (by omega)
    have w3 : IntKind.i64.wrap (c + 3) = c + 3 := wr64 (by omega) (by omega)
    have v1 : IntKind.i64.wrap (c + 1 + 1) = c + 2 := by rw [show c + 1 + 1 = c + 2 by omega]; exact w2
    have v2 : IntKind.i64.wrap (c + 2 + 1) = c + 3 := by rw [show c + 2 + 1 = c + 3 by omega]; exact w3
    have hn : c + 3 * ((t.length + 1 : Nat) : Int) = c + 3 + 3 * (t.length : Int) := by omega
    rw [List.length_cons, hn, loopW_eq]
    generalize loopW (bd E0 (ev E0) loopW 0 [0, 1, 5] L22b0) = K at hih ⊢
    unfold hp at *
    simpa -implicitDefEqProofs [bd, L22b0, hi, hx, hw, w1, w2, w3, v1, v2] using hih
theorem held_hops1 (n : Nat) (hn : n ≤ 1073741824) : ev E0 22 [.lst 3 ((seq_hops 1 n).map hp), i64 1] [] = some (i64 (1 + 3 * (n : Int)), []) := by
  rw [e22]
  unfold runF
  have hl := heldH_loop (seq_hops 1 n) (by rw [seq_hops_len]; omega) (seq_hops 1 n) 0 1 rfl (by rw [seq_hops_len]) (by omega) (by rw [seq_hops_len]; omega)
  rw [c0, seq_hops_len] at hl
  simp -implicitDefEqProofs [L22, hl]
theorem held_hnil : ev E0 22 [.v (.slice none 0 0), i64 1] [] = some (i64 1, []) := by
  rw [e22]
  unfold runF
  have hl : packX 0 [1, 4] (loopW (bd E0 (ev E0) loopW 0 [0, 1, 5] L22b0) ⟨[(0, .v (.slice none 0 0)), (1, i64 1), (5, i64 0)], []⟩) = some (.ext 0, ⟨[(1, i64 1)], []⟩) := by
    rw [loopW_eq]
    generalize loopW (bd E0 (ev E0) loopW 0 [0, 1, 5] L22b0) = K
    simp -implicitDefEqProofs [bd, L22b0]
  simp -implicitDefEqProofs [L22, hl]
theorem eq_hnil : ev E0 20 [.v (.slice none 0 0), .lst 3 []] [] = some (bl true, []) := by
  rw [e20]
  unfold runF
  have hl : packX 0 [4] (loopW (bd E0 (ev E0) loopW 0 [0, 1, 5] L20b0) ⟨[(0, .v (.slice none 0 0)), (1, .lst 3 []), (5, i64 0)], []⟩) = some (.ext 0, ⟨[], []⟩) := by
    rw [loopW_eq]
    generalize loopW (bd E0 (ev E0) loopW 0 [0, 1, 5] L20b0) = K
    simp -implicitDefEqProofs [bd, L20b0]
  simp -implicitDefEqProofs [L20, hl]
theorem mark_hnil (H : Hp) (c : Int) (hs : Stable H) : ev E0 21 [.v (.slice none 0 0), i64 c] H = some (i64 c, H) := by
  have pk : ∀ (s : List (Nat × AV)) (li : List Nat), (∀ q ∈ slotIds (keep s li), q < H.length) → pack H.length li ⟨s, H⟩ = some ⟨renS H.length [] (keep s li), H⟩ := fun s li h => pack_lo0 rfl hs h
  have pk2 : ∀ roots, (∀ q ∈ roots, q < H.length) → packH H.length H roots = some ([], H) := fun roots h => packH_lo0 rfl hs h
  have hl : packX H.length [1] (loopW (bd E0 (ev E0) loopW H.length [0, 1, 5] L21b0) ⟨[(0, .v (.slice none 0 0)), (1, i64 c), (5, i64 0)], H⟩) = some (.ext 0, ⟨[(1, i64 c)], H⟩) := by
    rw [loopW_eq]
    generalize loopW (bd E0 (ev E0) loopW H.length [0, 1, 5] L21b0) = K
    simp -implicitDefEqProofs [bd, L21b0, -pack, pk]
  rw [e21]
  unfold runF
  simp -implicitDefEqProofs [L21, hl, -pack, -packH, pk, pk2]
theorem mark_hnil1 (H : Hp) (s1 : (oldIds H).all (fun q => decide (q < H.length)) = true) (s2 : rnmH (newId H.length []) H = some H) : ev E0 21 [.v (.slice none 0 0), i64 1] H = some (i64 1, H) := mark_hnil H 1 (stable_of s1 s2)
theorem copyI_loop (ms : List Int) (hm : ms.length ≤ 140737488355328) : ∀ (t : List Int) (i : Nat), ms.drop i = t →
    packX 0 [3] (loopW (bd E0 (ev E0) loopW 0 [0, 3, 4] L18b0) ⟨[(0, .lst 1 (ms.map i64)), (3, .sl 0 0 ms.length), (4, i64 i)], [some ⟨3, 1, 1, false, (ms.take i).map i64 ++ List.replicate t.length (i64 0)⟩]⟩) = some (.ext 0, ⟨[(3, .sl 0 0 ms.length)], [some ⟨3, 1, 1, false, ms.map i64⟩]⟩) := by
  intro t
  induction t with
  | nil =>
    intro i h
    have hi := not_drop h
    have ht : ms.take i = ms := List.take_of_length_le (by omega)
    rw [ht, List.length_nil, List.replicate_zero, List.append_nil, loopW_eq]
    generalize loopW (bd E0 (ev E0) loopW 0 [0, 3, 4] L18b0) = K
    simp -implicitDefEqProofs [bd, L18b0, hi]
  | cons c t ih =>
    intro i h
    obtain ⟨hi, hx, hd, hmem⟩ := at_drop h
    have hih := ih (i + 1) hd
    rw [List.length_cons, List.replicate_succ]
    generalize List.replicate t.length (i64 0) = r at hih ⊢
    have e1 : ms.take (i + 1) = ms.take i ++ [c] := by rw [List.take_succ_eq_append_getElem hi, hx]
    rw [cs1, e1] at hih
    have hw : IntKind.i64.wrap ((i : Int) + 1) = (i : Int) + 1 := wr64 (by omega) (by omega)
    have e3 : (ms.take i).length = i := by rw [List.length_take]; omega
    rw [loopW_eq]
    generalize loopW (bd E0 (ev E0) loopW 0 [0, 3, 4] L18b0) = K at hih ⊢
    have hg : (List.take i (List.map i64 ms) ++ i64 0 :: r)[i]? = some (i64 0) := app_get (by simp; omega)
    have hst : (List.take i (List.map i64 ms) ++ i64 0 :: r).set i (i64 c) = List.take i (List.map i64 ms) ++ i64 c :: r := app_set (by simp; omega)
    rw [List.map_append, List.append_assoc, List.map_take] at hih
    simpa -implicitDefEqProofs [bd, L18b0, hi, hx, hw, hg, hst] using hih
theorem copy_ints (ms : List Int) (hm : ms.length ≤ 8796093022208) : ev E0 18 [.lst 1 (ms.map i64)] [] = some (.sl 0 0 ms.length, [some ⟨3, 1, 1, false, ms.map i64⟩]) := by
  rw [e18]
  unfold runF
  have hl := copyI_loop ms (by omega) ms 0 rfl
  rw [c0, List.take_zero, List.map_nil, List.nil_append] at hl
  have h1 : (ms.length : Int) * 8 ≤ 140737488355328 := by omega
  have h2 : (ms.length : Int) ≤ 140737488355328 := by omega
  simp -implicitDefEqProofs [L18, hl, h1, h2]
theorem mark_intsc (H : Hp) (id : Nat) (l : List Int) (c : Int) (h : hget H id = some ⟨3, 1, 1, false, l.map i64⟩) (s1 : (oldIds H).all (fun q => decide (q < H.length)) = true) (s2 : rnmH (newId H.length []) H = some H) (hl : l.length ≤ 1099511627776) (h0 : 0 ≤ c) (h1 : c ≤ 1099511627776) :
    ev E0 15 [.sl id 0 l.length, i64 c] H = some (i64 (c + l.length), H.set id (some ⟨3, 1, 1, false, (seqI c l.length).map i64⟩)) := mark_ints H id l c h (stable_of s1 s2) hl h0 h1
end Go.Proofs.Ytlmjoimjdpfamaa.Ev.Mk
