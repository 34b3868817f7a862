/- Marks turned: for dots dashes, and from the end; tables of these. -/
import Derived.Test.YtjagdiilcphhfaaGreatDoorEvTurn
set_option linter.unusedVariables false
set_option linter.unusedSimpArgs false
namespace Go.Proofs.YtjagdiilcphhfaaGreatDoor.Ev
def u8v (b : UInt8) : AV := .v (.int .u8 (b.toNat : Int))
theorem u8s_map (l : List UInt8) : u8s l = l.map u8v := by
  induction l with
  | nil => rfl
  | cons b l ih => rw [List.map_cons, ← ih]; rfl
theorem u8s_len (l : List UInt8) : (u8s l).length = l.length := by rw [u8s_map]; simp
theorem u8s_at {l : List UInt8} {i : Nat} {x : UInt8} (hi : i < l.length) (hx : l[i] = x) : ∀ h, (u8s l)[i]'h = u8v x := by
  intro h
  have : (u8s l)[i]? = some (u8v x) := by rw [u8s_map, List.getElem?_map, List.getElem?_eq_getElem hi, hx]; rfl
  exact (List.getElem?_eq_some_iff.1 this).2
theorem rvb_loop : ∀ (k : Nat) (P M Q : List UInt8) (n : Nat), M.length ≤ k → n = P.length + M.length + Q.length → n ≤ 1073741824 →
    packX 1 [] (loopW (bd E0 (ev E0) loopW 1 [0, 2, 3] L100b0) ⟨[(0, .sl 0 0 n), (2, i64 P.length), (3, i64 ((P.length : Int) + M.length - 1))], [some ⟨5, 1, 2, false, u8s (P ++ M ++ Q)⟩]⟩) = some (.ext 0, ⟨[], [some ⟨5, 1, 2, false, u8s (P ++ M.reverse ++ Q)⟩]⟩) := by
  intro k
  induction k with
  | zero =>
    intro P M Q n hk hn hb
    obtain rfl := List.length_eq_zero_iff.1 (Nat.le_zero.1 hk)
    have hc : ¬ (P.length : Int) < (P.length : Int) + ((0 : Nat) : Int) - 1 := by omega
    rw [List.length_nil, loopW_eq, List.reverse_nil]
    generalize (P.length : Int) + ((0 : Nat) : Int) - 1 = j at hc
    generalize u8s (P ++ [] ++ Q) = A
    generalize loopW (bd E0 (ev E0) loopW 1 [0, 2, 3] L100b0) = K
    simp -implicitDefEqProofs [bd, L100b0, hc]
  | succ k ih =>
    intro P M Q n hk hn hb
    match M, hk, hn with
    | [], hk, hn => exact ih P [] Q n (by simp) hn hb
    | [x], hk, hn =>
      have hc : ¬ (P.length : Int) < (P.length : Int) + (([x].length : Nat) : Int) - 1 := by simp
      rw [List.reverse_singleton, loopW_eq]
      generalize (P.length : Int) + (([x].length : Nat) : Int) - 1 = j at hc
      generalize u8s (P ++ [x] ++ Q) = A
      generalize loopW (bd E0 (ev E0) loopW 1 [0, 2, 3] L100b0) = K
      simp -implicitDefEqProofs [bd, L100b0, hc]
    | x :: z :: T, hk, hn =>
      obtain ⟨M', y, hM⟩ : ∃ M' y, z :: T = M' ++ [y] := by
        rcases List.eq_nil_or_concat (z :: T) with h | ⟨M', y, h⟩
        · cases h
        · exact ⟨M', y, by rw [h, List.concat_eq_append]⟩
      rw [hM] at hk hn ⊢
      simp only [List.length_cons, List.length_append, List.length_nil] at hk hn
      have hih := ih (P ++ [y]) M' ([x] ++ Q) n (by omega) (by simp; omega) hb
      have hj : (P.length : Int) + ((x :: (M' ++ [y])).length : Nat) - 1 = ((P.length + M'.length + 1 : Nat) : Int) := by simp; omega
      have hj2 : ((P ++ [y]).length : Int) + (M'.length : Int) - 1 = ((P.length + M'.length : Nat) : Int) := by simp; omega
      have hpl : ((P ++ [y]).length : Int) = ((P.length + 1 : Nat) : Int) := by simp
      have hrev : P ++ (x :: (M' ++ [y])).reverse ++ Q = P ++ [y] ++ M'.reverse ++ ([x] ++ Q) := by simp
      rw [hj2, hpl] at hih
      rw [hj, hrev, loopW_eq]
      have hlen : (u8s (P ++ (x :: (M' ++ [y])) ++ Q)).length = n := by rw [u8s_len]; simp; omega
      have hg1 : ∀ h, (u8s (P ++ (x :: (M' ++ [y])) ++ Q))[P.length]'h = u8v x := u8s_at (by simp) (by simp)
      have hg2 : ∀ h, (u8s (P ++ (x :: (M' ++ [y])) ++ Q))[P.length + M'.length + 1]'h = u8v y := u8s_at (by simp; omega) (by
        have e1 : P ++ (x :: (M' ++ [y])) ++ Q = (P ++ x :: M') ++ y :: Q := by simp
        simp only [e1]
        rw [List.getElem_append_right (by simp; omega)]
        simp [Nat.add_assoc])
      have hset : ((u8s (P ++ (x :: (M' ++ [y])) ++ Q)).set P.length (u8v y)).set (P.length + M'.length + 1) (u8v x) = u8s (P ++ [y] ++ M' ++ ([x] ++ Q)) := by
        have a1 : u8s (P ++ (x :: (M' ++ [y])) ++ Q) = u8s P ++ u8v x :: (u8s M' ++ u8v y :: u8s Q) := by simp [u8s_map]
        have a2 : u8s (P ++ [y] ++ M' ++ ([x] ++ Q)) = (u8s P ++ u8v y :: u8s M') ++ u8v x :: u8s Q := by simp [u8s_map]
        rw [a1, a2]
        have b1 : ∀ (A B : List AV) (u v : AV), (A ++ u :: B).set A.length v = A ++ v :: B := by
          intro A B u v
          induction A with
          | nil => rfl
          | cons c A ih => rw [List.cons_append, List.length_cons, List.set_cons_succ, ih]; rfl
        have b2 := b1 (u8s P) (u8s M' ++ u8v y :: u8s Q) (u8v x) (u8v y)
        rw [u8s_len] at b2
        have b3 := b1 (u8s P ++ u8v y :: u8s M') (u8s Q) (u8v y) (u8v x)
        have b4 : (u8s P ++ u8v y :: u8s M').length = P.length + M'.length + 1 := by simp [u8s_len]; omega
        rw [b4, List.append_assoc, List.cons_append] at b3
        rw [b2, b3]
      have hg3 : ∀ h, ((u8s (P ++ (x :: (M' ++ [y])) ++ Q)).set P.length (u8v y))[P.length + M'.length + 1]'h = u8v y := fun h => by
        rw [List.getElem_set_ne (by omega)]
        exact hg2 _
      have c1 : P.length < n := by omega
      have c2 : P.length + M'.length + 1 < n := by omega
      have c3 : (P.length : Int) < (n : Int) := by omega
      have c4 : ((P.length + M'.length + 1 : Nat) : Int) < (n : Int) := by omega
      have c5 : (P.length : Int) < ((P.length + M'.length + 1 : Nat) : Int) := by omega
      have w1 : IntKind.i64.wrap ((P.length : Int) + 1) = ((P.length + 1 : Nat) : Int) := by rw [wr64 (by omega) (by omega)]; omega
      have w2 : IntKind.i64.wrap (((P.length + M'.length + 1 : Nat) : Int) - 1) = ((P.length + M'.length : Nat) : Int) := by rw [wr64 (by omega) (by omega)]; omega
      have c6 : (0 : Int) ≤ ((P.length + M'.length + 1 : Nat) : Int) := by omega
      have c7 : ((P.length + M'.length + 1 : Nat) : Int).toNat = P.length + M'.length + 1 := Int.toNat_natCast _
      generalize u8s (P ++ [y] ++ M'.reverse ++ ([x] ++ Q)) = R at hih ⊢
      generalize u8s (P ++ [y] ++ M' ++ ([x] ++ Q)) = A2 at hih hset
      generalize u8s (P ++ (x :: (M' ++ [y])) ++ Q) = A at hlen hg1 hg2 hg3 hset ⊢
      generalize ((P.length + M'.length : Nat) : Int) = jp at w2 hih
      generalize ((P.length + 1 : Nat) : Int) = ip at w1 hih
      subst hset
      generalize hq : P.length + M'.length + 1 = q at *
      generalize loopW (bd E0 (ev E0) loopW 1 [0, 2, 3] L100b0) = K at hih ⊢
      simp only [u8v] at hg1 hg2 hg3 hih
      simpa -implicitDefEqProofs [bd, L100b0, hlen, hg1, hg2, hg3, c1, c2, c3, c4, c5, c6, w1, w2] using hih
theorem reverse_b (l : List UInt8) (hl : l.length ≤ 1073741824) : ev E0 100 [.sl 0 0 l.length] [some ⟨5, 1, 2, false, u8s l⟩] = some (.tup [], [some ⟨5, 1, 2, false, u8s l.reverse⟩]) := by
  have h := rvb_loop l.length [] l [] l.length (Nat.le_refl _) (by simp) hl
  have hw : IntKind.i64.wrap ((l.length : Int) - 1) = (l.length : Int) - 1 := wr64 (by omega) (by omega)
  have e0 : (([] : List UInt8).length : Int) + (l.length : Int) - 1 = (l.length : Int) - 1 := by simp
  have e1 : (([] : List UInt8).length : Int) = 0 := rfl
  rw [e0, e1, List.nil_append, List.nil_append, List.append_nil, List.append_nil] at h
  rw [e100]
  unfold runF
  generalize hm : (l.length : Int) - 1 = m at hw h
  simp -implicitDefEqProofs [-List.length_reverse, L100, hm, hw, h]
theorem bytesOf_u8s : ∀ l : List UInt8, bytesOf (u8s l) = some l
  | [] => rfl
  | b :: l => by
    show (bytesOf (u8s l)).bind _ = _
    rw [bytesOf_u8s l]
    simp
def revB (s : ByteArray) : ByteArray := ⟨(B s).reverse.toArray⟩
theorem back_i (s : ByteArray) (hs : s.size ≤ 1073741824) : ev E0 83 [st s] [] = some (st (revB s), []) := by
  have hl : s.data.toList.length = s.size := by simp
  have h := reverse_b s.data.toList (by omega)
  rw [hl] at h
  have hs2 : s.size ≤ 140737488355328 := by omega
  have hb := bytesOf_u8s s.data.toList.reverse
  have hn : (u8s s.data.toList.reverse).length = s.size := by rw [u8s_len, List.length_reverse, hl]
  have ht : List.take s.size (u8s s.data.toList.reverse) = u8s s.data.toList.reverse := List.take_of_length_le (by omega)
  rw [e83]
  unfold runF revB B
  generalize u8s s.data.toList.reverse = R at *
  generalize s.data.toList.reverse = Q at *
  simp -implicitDefEqProofs [L83, h, hs2, hn, hb, ht]
/-- A dash for each dot, a dot for each dash. -/
def oppB (s : ByteArray) : ByteArray := ⟨((B s).map fun b => if b = 46 then 45 else 46).toArray⟩
theorem oppS_loop (s : ByteArray) (hs : s.size ≤ 1073741824) : ∀ (t : List UInt8) (i : Nat) (acc : ByteArray), (B s).drop i = t → acc.size = i →
    packX 0 [3] (loopW (bd E0 (ev E0) loopW 0 [0, 3, 4] L94b0) ⟨[(0, st s), (3, st acc), (4, i64 i)], []⟩) = some (.ext 0, ⟨[(3, st (acc ++ ⟨(t.map fun b => if b = 46 then 45 else 46).toArray⟩))], []⟩) := by
  intro t
  induction t with
  | nil =>
    intro i acc h _
    have hi := byte_end h
    have ha : acc ++ (⟨(List.map (fun b => if b = 46 then 45 else 46) ([] : List UInt8)).toArray⟩ : ByteArray) = acc := B_eq (by unfold B; simp)
    rw [ha, loopW_eq]
    generalize loopW (bd E0 (ev E0) loopW 0 [0, 3, 4] L94b0) = K
    simp -implicitDefEqProofs [bd, L94b0, hi]
  | cons b t ih =>
    intro i acc h hz
    obtain ⟨hi, hx, hd⟩ := byte_at h
    have z1 : acc.size + (⟨#[45]⟩ : ByteArray).size ≤ 9223372036854775807 := by rw [show (⟨#[45]⟩ : ByteArray).size = 1 from rfl]; omega
    have z2 : acc.size + (⟨#[46]⟩ : ByteArray).size ≤ 9223372036854775807 := by rw [show (⟨#[46]⟩ : ByteArray).size = 1 from rfl]; omega
    have hg : ∀ h, s.data[i]'h = b := by
      intro _
      have hi2 : i < s.data.toList.length := by simpa using hi
      rw [List.getD_eq_getElem?_getD, List.getElem?_eq_getElem hi2, Option.getD_some] at hx
      exact hx
    have hw : IntKind.i64.wrap ((i : Int) + 1) = (i : Int) + 1 := wr64 (by omega) (by omega)
    have hih := ih (i + 1) (acc ++ ⟨#[if b = 46 then 45 else 46]⟩) hd (by rw [ByteArray.size_append]; show _ + 1 = _; omega)
    have ha : acc ++ (⟨#[if b = 46 then 45 else 46]⟩ : ByteArray) ++ ⟨(List.map (fun b => if b = 46 then 45 else 46) t).toArray⟩ = acc ++ ⟨(List.map (fun b => if b = 46 then 45 else 46) (b :: t)).toArray⟩ := B_eq (by unfold B; simp)
    rw [ha, cs1] at hih
    rw [loopW_eq]
    clear ih ha
    generalize acc ++ (⟨(List.map (fun b => if b = 46 then 45 else 46) (b :: t)).toArray⟩ : ByteArray) = R at hih ⊢
    by_cases hb : b = 46
    · subst hb
      rw [if_pos rfl] at hih
      generalize loopW (bd E0 (ev E0) loopW 0 [0, 3, 4] L94b0) = K at hih ⊢
      simpa -implicitDefEqProofs [bd, L94b0, hi, hx, hg, hw, z1, z2] using hih
    · rw [if_neg hb] at hih
      have hbn : decide ((b.toNat : Int) = 46) = false := decide_eq_false (fun h => hb (UInt8.toNat_inj.1 (by simpa using (by omega : b.toNat = 46))))
      generalize loopW (bd E0 (ev E0) loopW 0 [0, 3, 4] L94b0) = K at hih ⊢
      simpa -implicitDefEqProofs [bd, L94b0, hi, hx, hg, hw, hbn, z1, z2] using hih
theorem oppS (s : ByteArray) (hs : s.size ≤ 1073741824) : ev E0 94 [st s] [] = some (st (oppB s), []) := by
  have h := oppS_loop s hs (B s) 0 ⟨#[]⟩ rfl rfl
  have ha : (⟨#[]⟩ : ByteArray) ++ ⟨((B s).map fun b => if b = 46 then 45 else 46).toArray⟩ = oppB s := B_eq (by unfold oppB; simp [B])
  rw [ha, c0] at h
  rw [e94]
  unfold runF
  simp -implicitDefEqProofs [L94, h]
theorem opp_marks (s : ByteArray) (h : okMarks s 1 5 = true) : mapB opp s = oppB s := by
  unfold okMarks at h
  have ha : (B s).all okM = true := by simp only [Bool.and_eq_true] at h; exact h.1
  unfold mapB oppB B at *
  congr 2
  apply List.map_congr_left
  intro b hb
  have h1 := List.all_eq_true.1 ha b hb
  have h2 : b = 46 ∨ b = 45 := by simpa [okM] using h1
  rcases h2 with rfl | rfl <;> rfl
theorem oppI (s : ByteArray) (hs : s.size ≤ 1073741824) (h : okMarks s 1 5 = true) : ev E0 82 [st s] [] = some (st (oppB s), []) := by
  rw [e82, oppositeP, if_pos (by omega), opp_marks s h]
theorem backS_loop2 (s : ByteArray) (hs : s.size ≤ 1073741824) : ∀ (t : List UInt8) (i : Nat) (acc : ByteArray), (B s).drop i = t → acc.size = i →
    packX 0 [3] (loopW (bd E0 (ev E0) loopW 0 [0, 3, 4] L95b0) ⟨[(0, st s), (3, st acc), (4, i64 i)], []⟩) = some (.ext 0, ⟨[(3, st ((⟨t.reverse.toArray⟩ : ByteArray) ++ acc))], []⟩) := by
  intro t
  induction t with
  | nil =>
    intro i acc h _
    have hi := byte_end h
    have ha : (⟨([] : List UInt8).reverse.toArray⟩ : ByteArray) ++ acc = acc := B_eq (by unfold B; simp)
    rw [ha, loopW_eq]
    generalize loopW (bd E0 (ev E0) loopW 0 [0, 3, 4] L95b0) = K
    simp -implicitDefEqProofs [bd, L95b0, hi]
  | cons b t ih =>
    intro i acc h hz
    obtain ⟨hi, hx, hd⟩ := byte_at h
    have z1 : (⟨#[b]⟩ : ByteArray).size + acc.size ≤ 9223372036854775807 := by rw [show (⟨#[b]⟩ : ByteArray).size = 1 from rfl]; omega
    have hg : s.extract i (i + 1) = ⟨#[b]⟩ := B_eq (by
      rw [B_ext, List.drop_take, h]
      simp [B])
    have hw : IntKind.i64.wrap ((i : Int) + 1) = (i : Int) + 1 := wr64 (by omega) (by omega)
    have hih := ih (i + 1) (⟨#[b]⟩ ++ acc) hd (by rw [ByteArray.size_append]; show 1 + _ = _; omega)
    have ha : (⟨t.reverse.toArray⟩ : ByteArray) ++ (⟨#[b]⟩ ++ acc) = ⟨(b :: t).reverse.toArray⟩ ++ acc := B_eq (by unfold B; simp)
    rw [ha, cs1] at hih
    have i1 : (i : Int) + 1 ≤ (s.size : Int) := by omega
    have i2 : i + 1 ≤ s.size := hi
    have i0 : (i : Int) ≤ (i : Int) + 1 := by omega
    rw [loopW_eq]
    clear ih ha
    generalize (⟨(b :: t).reverse.toArray⟩ : ByteArray) ++ acc = R at hih ⊢
    generalize loopW (bd E0 (ev E0) loopW 0 [0, 3, 4] L95b0) = K at hih ⊢
    simpa -implicitDefEqProofs [bd, L95b0, hi, i0, i1, i2, hg, hw, z1] using hih
theorem backS_t (s : ByteArray) (hs : s.size ≤ 1073741824) : ev E0 95 [st s] [] = some (st (revB s), []) := by
  have h := backS_loop2 s hs (B s) 0 ⟨#[]⟩ rfl rfl
  have ha : (⟨(B s).reverse.toArray⟩ : ByteArray) ++ ⟨#[]⟩ = revB s := B_eq (by unfold revB; simp [B])
  rw [ha, c0] at h
  rw [e95]
  unfold runF
  simp -implicitDefEqProofs [L95, h]
end Go.Proofs.YtjagdiilcphhfaaGreatDoor.Ev
