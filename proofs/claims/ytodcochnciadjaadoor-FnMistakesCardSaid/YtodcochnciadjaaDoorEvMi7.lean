/- Safe subsets: the program's and the reference's. -/
import Derived.Test.YtodcochnciadjaaDoorEvMi6
import Derived.Test.YtodcochnciadjaaDoorEvBfs
set_option linter.unusedVariables false
set_option linter.unusedSimpArgs false
namespace Go.Proofs.YtodcochnciadjaaDoor.Ev
def clsB (ms : List ByteArray) (m : ByteArray) (l : List Nat) : Bool := l.any (fun k => decide (ds m (mk_ ms k) < 2))
def sfF (ms : List ByteArray) : Nat → Nat → List Nat → List Nat
  | 0, _, l => l
  | r + 1, i, l => sfF ms r (i + 1) (if clsB ms (mk_ ms i) l = true then l else l ++ [i])
theorem get_ns {l : List Nat} {i c : Nat} (hi : i < l.length) (hx : l[i] = c) : (ns l)[i]? = some (i64 (c : Int)) := by
  unfold ns
  rw [List.getElem?_map, List.getElem?_eq_getElem hi, hx]
  rfl
def capsM (ms : List ByteArray) (m : ByteArray) : List AV := [.el (.agg [st m]) 0, .el (.agg [.lst 1 (ms.map st)]) 0]
theorem clo66 (ms : List ByteArray) (hz : ∀ m ∈ ms, m.size ≤ 400) (m : ByteArray) (hm : m.size ≤ 400) (k : Nat) (hk : k < ms.length) : ev E0 66 [i64 k, .el (.agg [st m]) 0, .el (.agg [.lst 1 (ms.map st)]) 0] [] = some (bl (decide (ds m (mk_ ms k) < 2)), []) := by
  have g := get_mk hk
  have g2 := mk_at hk
  have hki : (k : Int) < (ms.length : Int) := by omega
  have h := ds_i m (mk_ ms k) hm (mk_sz hz k)
  have hd : decide (ds m (mk_ ms k) < 2) = decide ((ds m (mk_ ms k) : Int) < 2) := by rw [decide_eq_decide]; omega
  rw [hd]
  generalize ds m (mk_ ms k) = d at *
  rw [e66]
  unfold runF
  simp -implicitDefEqProofs [L66, g, g2, hk, hki, h]
theorem idxF (ms : List ByteArray) (hz : ∀ m ∈ ms, m.size ≤ 400) (m : ByteArray) (hm : m.size ≤ 400) (l : List Nat) (hl : l.length ≤ 1000000) (hlt : ∀ k ∈ l, k < ms.length) : ∀ (t : List Nat) (i : Nat), l.drop i = t →
    (∃ r : Nat, clsB ms m t = true ∧ packX 0 [4] (loopW (bd E0 (ev E0) loopW 0 [0, 1, 7, 8] L97b0) ⟨[(0, .lst 1 (ns l)), (1, .fn (.func 66) [] (capsM ms m)), (7, i64 l.length), (8, i64 i)], []⟩) = some (.ret, ⟨[(4, i64 r)], []⟩)) ∨
    (clsB ms m t = false ∧ packX 0 [4] (loopW (bd E0 (ev E0) loopW 0 [0, 1, 7, 8] L97b0) ⟨[(0, .lst 1 (ns l)), (1, .fn (.func 66) [] (capsM ms m)), (7, i64 l.length), (8, i64 i)], []⟩) = some (.ext 0, ⟨[], []⟩)) := by
  unfold capsM
  intro t
  induction t with
  | nil =>
    intro i h
    have hi := not_drop h
    have hii : ¬ (i : Int) < (l.length : Int) := by omega
    right
    refine ⟨rfl, ?_⟩
    rw [loopW_eq]
    generalize loopW (bd E0 (ev E0) loopW 0 [0, 1, 7, 8] L97b0) = K
    simp -implicitDefEqProofs [bd, L97b0, hi, hii]
  | cons c t ih =>
    intro i h
    obtain ⟨hi, hx, hd, hmem⟩ := at_drop h
    have hii : (i : Int) < (l.length : Int) := by omega
    have g1 := get_ns hi hx
    have hnl := ns_len l
    have g2 : ∀ h, (ns l)[i]'h = i64 (c : Int) := fun h => (List.getElem?_eq_some_iff.1 g1).2
    have hc := clo66 ms hz m hm c (hlt c hmem)
    have hw : IntKind.i64.wrap ((i : Int) + 1) = (i : Int) + 1 := wr64 (by omega) (by omega)
    have hih := ih (i + 1) hd
    rw [cs1] at hih
    clear ih
    have hcl : clsB ms m (c :: t) = (decide (ds m (mk_ ms c) < 2) || clsB ms m t) := by unfold clsB; rw [List.any_cons]
    rw [hcl, loopW_eq]
    cases hq : decide (ds m (mk_ ms c) < 2) with
    | true =>
      rw [hq] at hc
      left
      refine ⟨i, rfl, ?_⟩
      generalize loopW (bd E0 (ev E0) loopW 0 [0, 1, 7, 8] L97b0) = K
      generalize ns l = nl at *
      simp -implicitDefEqProofs [bd, L97b0, hi, hii, g1, g2, hnl, hc]
    | false =>
      rw [hq] at hc
      rw [Bool.false_or]
      generalize loopW (bd E0 (ev E0) loopW 0 [0, 1, 7, 8] L97b0) = K at hih ⊢
      generalize ns l = nl at *
      rcases hih with ⟨r, h1, h2⟩ | ⟨h1, h2⟩
      · left
        refine ⟨r, h1, ?_⟩
        simpa -implicitDefEqProofs [bd, L97b0, hi, hii, g1, g2, hnl, hc, hw] using h2
      · right
        refine ⟨h1, ?_⟩
        simpa -implicitDefEqProofs [bd, L97b0, hi, hii, g1, g2, hnl, hc, hw] using h2
theorem contF (ms : List ByteArray) (hz : ∀ m ∈ ms, m.size ≤ 400) (m : ByteArray) (hm : m.size ≤ 400) (l : List Nat) (hl : l.length ≤ 1000000) (hlt : ∀ k ∈ l, k < ms.length) :
    ev E0 65 [.lst 1 (ns l), .fn (.func 66) [] (capsM ms m)] [] = some (bl (clsB ms m l), []) := by
  have h := idxF ms hz m hm l hl hlt l 0 rfl
  rw [c0] at h
  have hnl := ns_len l
  have key : ∃ r : Int, clsB ms m l = decide (0 ≤ r) ∧ ev E0 97 [.lst 1 (ns l), .fn (.func 66) [] (capsM ms m)] [] = some (i64 r, []) := by
    rcases h with ⟨r, h1, h2⟩ | ⟨h1, h2⟩
    · refine ⟨r, by rw [h1, decide_eq_true (by omega)], ?_⟩
      rw [e97]
      unfold runF
      unfold capsM at h2 ⊢
      simp -implicitDefEqProofs [L97, hnl, h2]
    · refine ⟨-1, by rw [h1]; rfl, ?_⟩
      rw [e97]
      unfold runF
      unfold capsM at h2 ⊢
      simp -implicitDefEqProofs [L97, hnl, h2]
  obtain ⟨r, h1, h2⟩ := key
  rw [h1, e65]
  unfold runF
  unfold capsM at h2 ⊢
  simp -implicitDefEqProofs [L65, h2]
theorem sfI (ms : List ByteArray) (hm : ms.length ≤ 1000) (hz : ∀ m ∈ ms, m.size ≤ 400) : ∀ (r i : Nat) (l : List Nat), i + r = ms.length → l.length ≤ i → (∀ k ∈ l, k < i) →
    packX 0 [4] (loopW (bd E0 (ev E0) loopW 0 [1, 4, 12, 13, 14] L28b0) ⟨[(1, .ptr 0 0 0), (4, .sl 1 0 l.length), (12, .lst 1 (ms.map st)), (13, i64 ms.length), (14, i64 i)], [some (tb ms), some (ib l)]⟩) =
      some (.ext 0, ⟨[(4, .sl 0 0 (sfF ms r i l).length)], [some (ib (sfF ms r i l))]⟩) := by
  unfold tb ib
  intro r
  induction r with
  | zero =>
    intro i l h hl _
    obtain rfl : i = ms.length := by omega
    rw [loopW_eq]
    generalize loopW (bd E0 (ev E0) loopW 0 [1, 4, 12, 13, 14] L28b0) = K
    simp -implicitDefEqProofs [bd, L28b0, sfF]
  | succ r ih =>
    intro i l h hl hlt
    have hi : i < ms.length := by omega
    have hii : (i : Int) < (ms.length : Int) := by omega
    have g1 := get_mk hi
    have m1 := mk_at hi
    have hc := contF ms hz (mk_ ms i) (mk_sz hz i) l (by omega) (fun k hk => by have := hlt k hk; omega)
    unfold capsM at hc
    have hw : IntKind.i64.wrap ((i : Int) + 1) = (i : Int) + 1 := wr64 (by omega) (by omega)
    have l1 : l.length + 1 ≤ 140737488355328 := by omega
    have l2 : (l.length + 1) * 8 ≤ 140737488355328 := by omega
    have ht : List.take l.length (ns l) = ns l := List.take_of_length_le (by rw [ns_len]; exact Nat.le_refl _)
    have hnl := ns_len l
    have ha := ns_app l i
    rw [sfF, loopW_eq]
    cases hq : clsB ms (mk_ ms i) l with
    | true =>
      rw [hq] at hc
      have hih := ih (i + 1) l (by omega) (by omega) (fun k hk => by have := hlt k hk; omega)
      rw [if_pos rfl]
      clear hq ih
      generalize sfF ms r _ _ = R at hih ⊢
      generalize mk_ ms i = a at *
      rw [cs1] at hih
      generalize loopW (bd E0 (ev E0) loopW 0 [1, 4, 12, 13, 14] L28b0) = K at hih ⊢
      generalize ns l = nl at *
      simpa -implicitDefEqProofs [bd, L28b0, hi, hii, g1, m1, hc, hw, ht, hnl] using hih
    | false =>
      rw [hq] at hc
      have hih := ih (i + 1) (l ++ [i]) (by omega) (by simp; omega) (fun k hk => by
        rcases List.mem_append.1 hk with hk | hk
        · have := hlt k hk; omega
        · rw [List.mem_singleton.1 hk]; omega)
      rw [if_neg (by simp)]
      clear hq ih
      generalize sfF ms r _ _ = R at hih ⊢
      generalize mk_ ms i = a at *
      rw [cs1, ← ha, List.length_append, List.length_singleton] at hih
      generalize loopW (bd E0 (ev E0) loopW 0 [1, 4, 12, 13, 14] L28b0) = K at hih ⊢
      generalize ns l = nl at *
      simpa -implicitDefEqProofs [bd, L28b0, hi, hii, g1, m1, hc, hw, ht, hnl, l1, l2] using hih
theorem sfS0 (ms : List ByteArray) (hm : ms.length ≤ 1000) (hz : ∀ m ∈ ms, m.size ≤ 400) (i : Nat) (hi : i < ms.length) (l : List Nat) (hl : l.length ≤ 1000) (hlt : ∀ k ∈ l, k < i) : ∀ (t : List Nat) (j : Nat) (far : Bool), l.drop j = t →
    packX 0 [1, 4, 5, 6] (loopW (bd E0 (ev E0) loopW 0 [1, 4, 5, 6, 7] L29b0) ⟨[(1, .ptr 0 0 0), (4, .sl 1 0 l.length), (5, i64 i), (6, bl far), (7, i64 j)], [some (tb ms), some (ib l)]⟩) =
      some (.ext 2, ⟨[(1, .ptr 0 0 0), (4, .sl 1 0 l.length), (5, i64 i), (6, bl (far && !clsB ms (mk_ ms i) t))], [some (tb ms), some (ib l)]⟩) := by
  unfold tb ib
  have hnl := ns_len l
  have ht : List.take l.length (ns l) = ns l := List.take_of_length_le (by rw [ns_len]; exact Nat.le_refl _)
  intro t
  induction t with
  | nil =>
    intro j far h
    have hj := not_drop h
    have hjj : ¬ (j : Int) < (l.length : Int) := by omega
    have e : (far && !clsB ms (mk_ ms i) []) = far := by unfold clsB; simp
    rw [e, loopW_eq]
    generalize loopW (bd E0 (ev E0) loopW 0 [1, 4, 5, 6, 7] L29b0) = K
    simp -implicitDefEqProofs [bd, L29b0, hj, hjj, hnl, ht]
  | cons c t ih =>
    intro j far h
    obtain ⟨hj, hx, hd, hmem⟩ := at_drop h
    have hjj : (j : Int) < (l.length : Int) := by omega
    have hc : c < ms.length := by have := hlt c hmem; omega
    have hcc : (c : Int) < (ms.length : Int) := by omega
    have hii : (i : Int) < (ms.length : Int) := by omega
    have g1 := get_mk hi
    have g2 := get_mk hc
    have m1 := mk_at hi
    have m2 := mk_at hc
    have g3 := get_ns hj hx
    have g4 : ∀ h, (ns l)[j]'h = i64 (c : Int) := fun h => (List.getElem?_eq_some_iff.1 g3).2
    have hds := ds_s (mk_ ms i) (mk_ ms c) (mk_sz hz i) (mk_sz hz c)
    have hw : IntKind.i64.wrap ((j : Int) + 1) = (j : Int) + 1 := wr64 (by omega) (by omega)
    have hcl : clsB ms (mk_ ms i) (c :: t) = (decide (ds (mk_ ms i) (mk_ ms c) < 2) || clsB ms (mk_ ms i) t) := by unfold clsB; rw [List.any_cons]
    have hih := ih (j + 1) (far && !decide (ds (mk_ ms i) (mk_ ms c) < 2)) hd
    rw [cs1] at hih
    have e : (far && !clsB ms (mk_ ms i) (c :: t)) = ((far && !decide (ds (mk_ ms i) (mk_ ms c) < 2)) && !clsB ms (mk_ ms i) t) := by rw [hcl, Bool.not_or, Bool.and_assoc]
    rw [e, loopW_eq]
    clear ih e hcl
    generalize clsB ms (mk_ ms i) t = q at *
    have hd2 : (!decide (ds (mk_ ms i) (mk_ ms c) < 2)) = decide (1 < (ds (mk_ ms i) (mk_ ms c) : Int)) := by rw [← decide_not, decide_eq_decide]; omega
    rw [hd2] at hih ⊢
    generalize ds (mk_ ms i) (mk_ ms c) = d at *
    generalize mk_ ms i = a at *
    generalize mk_ ms c = b at *
    generalize loopW (bd E0 (ev E0) loopW 0 [1, 4, 5, 6, 7] L29b0) = K at hih ⊢
    generalize ns l = nl at *
    cases far with
    | false =>
      rw [Bool.false_and] at hih
      rw [Bool.false_and]
      simpa -implicitDefEqProofs [bd, L29b0, hj, hjj, hnl, ht, hw] using hih
    | true =>
      rw [Bool.true_and] at hih
      rw [Bool.true_and]
      simpa -implicitDefEqProofs [bd, L29b0, hi, hii, hc, hcc, hj, hjj, hnl, ht, hw, g1, g2, g3, g4, m1, m2, hds] using hih
theorem sfS1 (ms : List ByteArray) (hm : ms.length ≤ 1000) (hz : ∀ m ∈ ms, m.size ≤ 400) : ∀ (r i : Nat) (l : List Nat), i + r = ms.length → l.length ≤ i → (∀ k ∈ l, k < i) →
    packX 0 [4] (loopW (bd E0 (ev E0) loopW 0 [1, 4, 5] L29b1) ⟨[(1, .ptr 0 0 0), (4, .sl 1 0 l.length), (5, i64 i)], [some (tb ms), some (ib l)]⟩) =
      some (.ext 0, ⟨[(4, .sl 0 0 (sfF ms r i l).length)], [some (ib (sfF ms r i l))]⟩) := by
  intro r
  induction r with
  | zero =>
    intro i l h hl _
    obtain rfl : i = ms.length := by omega
    unfold tb ib
    rw [loopW_eq]
    generalize loopW (bd E0 (ev E0) loopW 0 [1, 4, 5] L29b1) = K
    unfold bd
    simp -implicitDefEqProofs [L29b1, sfF]
  | succ r ih =>
    intro i l h hl hlt
    have hi : i < ms.length := by omega
    have hii : (i : Int) < (ms.length : Int) := by omega
    have hin := sfS0 ms hm hz i hi l (by omega) hlt l 0 true rfl
    have hw : IntKind.i64.wrap ((i : Int) + 1) = (i : Int) + 1 := wr64 (by omega) (by omega)
    have l1 : l.length + 1 ≤ 140737488355328 := by omega
    have l2 : (l.length + 1) * 8 ≤ 140737488355328 := by omega
    have ht : List.take l.length (ns l) = ns l := List.take_of_length_le (by rw [ns_len]; exact Nat.le_refl _)
    have hnl := ns_len l
    have ha := ns_app l i
    rw [c0, Bool.true_and] at hin
    unfold tb ib at hin ih ⊢
    rw [sfF, loopW_eq]
    cases hq : clsB ms (mk_ ms i) l with
    | true =>
      rw [hq] at hin
      have hih := ih (i + 1) l (by omega) (by omega) (fun k hk => by have := hlt k hk; omega)
      rw [if_pos rfl]
      clear hq ih
      generalize sfF ms r _ _ = R at hih ⊢
      rw [cs1] at hih
      generalize loopW (bd E0 (ev E0) loopW 0 [1, 4, 5] L29b1) = K at hih ⊢
      generalize ns l = nl at *
      unfold bd
      simpa -implicitDefEqProofs [L29b1, hi, hii, hin, hw, ht, hnl] using hih
    | false =>
      rw [hq] at hin
      have hih := ih (i + 1) (l ++ [i]) (by omega) (by simp; omega) (fun k hk => by
        rcases List.mem_append.1 hk with hk | hk
        · have := hlt k hk; omega
        · rw [List.mem_singleton.1 hk]; omega)
      rw [if_neg (by simp)]
      clear hq ih
      generalize sfF ms r _ _ = R at hih ⊢
      rw [cs1, ← ha, List.length_append, List.length_singleton] at hih
      generalize loopW (bd E0 (ev E0) loopW 0 [1, 4, 5] L29b1) = K at hih ⊢
      generalize ns l = nl at *
      unfold bd
      simpa -implicitDefEqProofs [L29b1, hi, hii, hin, hw, ht, hnl, l1, l2] using hih
def sfs (ms : List ByteArray) : List Nat := sfF ms ms.length 0 []
theorem safeSub_i (ms : List ByteArray) (hm : ms.length ≤ 1000) (hz : ∀ m ∈ ms, m.size ≤ 400) : ev E0 28 [.agg [.lst 1 (ms.map st)]] [] = if okTable ms = true then some (.tup [.sl 0 0 (sfs ms).length, bl true], [some (ib (sfs ms))]) else some (.tup [.v (.slice none 0 0), bl false], []) := by
  have h := sfI ms hm hz ms.length 0 [] (by omega) (by simp) (by simp)
  rw [c0, List.length_nil] at h
  change _ = some (Ex.ext 0, (⟨[(4, .sl 0 0 (sfs ms).length)], [some (ib (sfs ms))]⟩ : St)) at h
  have h1 := table_i ms (by omega) (fun x hx => by have := hz x hx; omega)
  generalize sfs ms = R at *
  unfold ib tb at *
  rw [show ns [] = [] from rfl] at h
  rw [e28]
  unfold runF
  cases ho : okTable ms <;> rw [ho] at h1 <;> simp -implicitDefEqProofs [L28, h, h1]
theorem safeSub_s (ms : List ByteArray) (hm : ms.length ≤ 1000) (hz : ∀ m ∈ ms, m.size ≤ 400) : ev E0 29 [.agg [.lst 1 (ms.map st)]] [] = if okTable ms = true then some (.tup [.sl 0 0 (sfs ms).length, bl true], [some (ib (sfs ms))]) else some (.tup [.sl 0 0 0, bl false], [some (ib [])]) := by
  have h := sfS1 ms hm hz ms.length 0 [] (by omega) (by simp) (by simp)
  rw [c0, List.length_nil] at h
  change _ = some (Ex.ext 0, (⟨[(4, .sl 0 0 (sfs ms).length)], [some (ib (sfs ms))]⟩ : St)) at h
  have h1 := table_s ms (by omega) (fun x hx => by have := hz x hx; omega)
  generalize sfs ms = R at *
  have hn : ns [] = [] := rfl
  unfold ib tb at *
  rw [hn] at h
  rw [e29]
  unfold runF
  cases ho : okTable ms <;> rw [ho] at h1 <;> simp -implicitDefEqProofs [L29, h, h1, hn]
/-- Letters of a safe subset are two apart at least. -/
theorem sf_apart (ms : List ByteArray) : ∀ (r i : Nat) (l : List Nat), (∀ k ∈ l, k < i) → (∀ a b, a < b → b < l.length → 2 ≤ ds (mk_ ms (Bf.Q l b)) (mk_ ms (Bf.Q l a))) →
    (∀ k ∈ sfF ms r i l, k < i + r) ∧ ∀ a b, a < b → b < (sfF ms r i l).length → 2 ≤ ds (mk_ ms (Bf.Q (sfF ms r i l) b)) (mk_ ms (Bf.Q (sfF ms r i l) a))
  | 0, i, l, h1, h2 => ⟨h1, h2⟩
  | r + 1, i, l, h1, h2 => by
    rw [sfF, show i + (r + 1) = (i + 1) + r by omega]
    by_cases c : clsB ms (mk_ ms i) l = true
    · rw [if_pos c]
      exact sf_apart ms r (i + 1) l (fun k hk => by have := h1 k hk; omega) h2
    · rw [if_neg c]
      refine sf_apart ms r (i + 1) (l ++ [i]) (fun k hk => ?_) fun a b hab hb => ?_
      · rcases List.mem_append.1 hk with hk | hk
        · have := h1 k hk; omega
        · rw [List.mem_singleton.1 hk]; omega
      · rw [List.length_append, List.length_singleton] at hb
        rw [Bf.Q_app (show a < l.length by omega)]
        by_cases hb2 : b < l.length
        · rw [Bf.Q_app hb2]
          exact h2 a b hab hb2
        · obtain rfl : b = l.length := by omega
          rw [Bf.Q_last]
          apply Decidable.byContradiction
          intro hn
          apply c
          unfold clsB
          rw [List.any_eq_true]
          exact ⟨Bf.Q l a, Bf.Q_mem hab, decide_eq_true (by omega)⟩
end Go.Proofs.YtodcochnciadjaaDoor.Ev
