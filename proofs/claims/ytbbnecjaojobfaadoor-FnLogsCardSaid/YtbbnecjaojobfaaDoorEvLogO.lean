/- The records at the start of a log: the reference's l12Open and the program's readRecords, in the evaluator's words. -/
import Derived.Test.YtbbnecjaojobfaaDoorEvLogL
set_option linter.unusedVariables false
set_option linter.unusedSimpArgs false
namespace Go.Proofs.YtbbnecjaojobfaaDoor.Ev.Lg
def recE (x : R) : AV := .agg [st x.1, st x.2]
theorem partsB_len (b : UInt8) (l : List UInt8) : (partsB b (mk l)).length = l.count b + 1 := by
  unfold partsB
  rw [List.length_map, B_mk', parts_len]
theorem open_loop (s : ByteArray) (hs : s.size ≤ 300000) : ∀ (m : Nat) (acc : List R) (at_ : Nat), acc.length + m = 60 → at_ ≤ s.size →
    packX 0 [4, 5] (loopW (bd E0 (ev E0) loopW 0 [0, 4, 5] L58b0) ⟨[(0, st s), (4, .sl 0 0 acc.length), (5, i64 at_)], [some ⟨33, 2, 1, false, acc.map recE⟩]⟩) =
      some (.ext 0, ⟨[(4, .sl 0 0 (acc ++ (run m acc.length ((B s).drop at_)).map (·.1)).length), (5, i64 ((at_ + tot (run m acc.length ((B s).drop at_)) : Nat) : Int))], [some ⟨33, 2, 1, false, (acc ++ (run m acc.length ((B s).drop at_)).map (·.1)).map recE⟩]⟩) := by
  intro m
  induction m with
  | zero =>
    intro acc at_ ha hat
    have h60 : ¬ acc.length < 60 := by omega
    have h60' : ¬ (acc.length : Int) < 60 := by omega
    have hr : run 0 acc.length ((B s).drop at_) = [] := rfl
    rw [hr, loopW_eq]
    generalize loopW (bd E0 (ev E0) loopW 0 [0, 4, 5] L58b0) = K
    by_cases hlt : at_ < s.size
    · simp -implicitDefEqProofs [bd, L58b0, hlt, h60, h60', tot]
    · simp -implicitDefEqProofs [bd, L58b0, hlt, tot]
  | succ m ih =>
    intro acc at_ ha hat
    have h60 : acc.length < 60 := by omega
    have h60' : (acc.length : Int) < 60 := by omega
    by_cases hlt : at_ < s.size
    · have hex : s.extract at_ s.size = mk ((B s).drop at_) := from_mk s at_
      have hll : ((B s).drop at_).length = s.size - at_ := by rw [List.length_drop, B_len]
      have hle : (at_ : Int) ≤ (s.size : Int) := by omega
      have hih := fun e z => ih (acc ++ [e]) (at_ + z) (by simp; omega)
      have hdrop : ∀ z, (B s).drop (at_ + z) = ((B s).drop at_).drop z := fun z => by rw [List.drop_drop]
      simp only [hdrop] at hih
      generalize (B s).drop at_ = l at *
      have hul := upto_len 10 l
      have hls : (mk l).size = l.length := mk_size l
      have sp := split_s (mk l) (by omega) 10
      rw [show ((10 : UInt8).toNat : Int) = 10 from rfl] at sp
      have hpl := partsB_len 10 l
      obtain ⟨q, hq⟩ := partsB_cons 10 (mk l)
      rw [B_mk'] at hq
      rw [hq] at sp hpl
      have hfs : (mk (upto 10 l)).size = (upto 10 l).length := mk_size _
      obtain ⟨c, r, ok, hd1, hd2⟩ := decode_s (mk (upto 10 l)) (by omega) acc.length (by omega)
      rw [B_mk'] at hd2
      rw [loopW_eq]
      generalize loopW (bd E0 (ev E0) loopW 0 [0, 4, 5] L58b0) = K at hih ⊢
      by_cases hm : (10 : UInt8) ∈ l
      · have hpos : 0 < l.count 10 := List.count_pos_iff.2 hm
        have h2 : ¬ (mk (upto 10 l) :: q).length < 2 := by omega
        rw [List.length_cons] at h2 hpl
        have h2' : ¬ ((q.length : Int) + 1) < 2 := by omega
        have h2'' : ¬ q.length + 1 < 2 := by omega
        cases ok with
        | true =>
          rw [if_pos rfl] at hd2
          have hst : step (acc.length : Int) l = some ((c, r), (upto 10 l).length + 1) := by
            unfold step
            rw [if_pos hm, hd2]
            rfl
          have hz := step_len hst
          have hrun : run (m + 1) acc.length l = ((c, r), (upto 10 l).length + 1) :: run m (acc.length + 1) (l.drop ((upto 10 l).length + 1)) := by
            conv => lhs; unfold run
            rw [hst]
          have h := hih (c, r) ((upto 10 l).length + 1) (by omega)
          rw [List.length_append, List.length_singleton] at h
          have e1 : acc ++ (run (m + 1) acc.length l).map (·.1) = (acc ++ [((c, r) : R)]) ++ (run m (acc.length + 1) (l.drop ((upto 10 l).length + 1))).map (·.1) := by rw [hrun]; simp
          have e2 : at_ + tot (run (m + 1) acc.length l) = at_ + ((upto 10 l).length + 1) + tot (run m (acc.length + 1) (l.drop ((upto 10 l).length + 1))) := by rw [hrun]; simp [tot]; omega
          rw [e1, e2]
          generalize (acc ++ [((c, r) : R)]) ++ (run m (acc.length + 1) (l.drop ((upto 10 l).length + 1))).map (·.1) = X at h ⊢
          generalize at_ + ((upto 10 l).length + 1) + tot (run m (acc.length + 1) (l.drop ((upto 10 l).length + 1))) = Y at h ⊢
          have w1 : IntKind.i64.wrap ((at_ : Int) + ((upto 10 l).length : Int)) = (at_ : Int) + ((upto 10 l).length : Int) := wr64 (by omega) (by omega)
          have w2 : IntKind.i64.wrap ((at_ : Int) + ((upto 10 l).length : Int) + 1) = (at_ : Int) + ((upto 10 l).length : Int) + 1 := wr64 (by omega) (by omega)
          have b3 : (acc.length + 1) * 32 ≤ 140737488355328 := by omega
          have b4 : acc.length + 1 ≤ 140737488355328 := by omega
          have e3 : ((at_ + ((upto 10 l).length + 1) : Nat) : Int) = (at_ : Int) + ((upto 10 l).length : Int) + 1 := by omega
          rw [e3, List.map_append] at h
          simpa -implicitDefEqProofs [bd, L58b0, hlt, h60, h60', hle, hex, sp, hd1, h2', h2'', hfs, w1, w2, b3, b4, recE] using h
        | false =>
          rw [if_neg (by simp)] at hd2
          have hst : step (acc.length : Int) l = none := by
            unfold step
            rw [if_pos hm, hd2]
            rfl
          have hrun : run (m + 1) acc.length l = [] := by
            unfold run
            rw [hst]
          rw [hrun]
          simp -implicitDefEqProofs [bd, L58b0, hlt, h60, h60', hle, hex, sp, hd1, h2', h2'', tot]
      · have hz : l.count 10 = 0 := List.count_eq_zero.2 hm
        rw [List.length_cons] at hpl
        have hq0 : q.length = 0 := by omega
        have hq1 : q = [] := List.length_eq_zero_iff.1 hq0
        subst hq1
        have hst : step (acc.length : Int) l = none := by
          unfold step
          rw [if_neg hm]
        have hrun : run (m + 1) acc.length l = [] := by
          unfold run
          rw [hst]
        rw [hrun]
        simp -implicitDefEqProofs [bd, L58b0, hlt, h60, h60', hle, hex, sp, hd1, tot]
    · have hl : (B s).drop at_ = [] := List.drop_eq_nil_of_le (by rw [B_len]; omega)
      have hst : step (acc.length : Int) [] = none := by
        unfold step
        rw [if_neg (by simp)]
      have hrun : run (m + 1) acc.length [] = [] := by
        unfold run
        rw [hst]
      rw [hl, hrun, loopW_eq]
      generalize loopW (bd E0 (ev E0) loopW 0 [0, 4, 5] L58b0) = K
      simp -implicitDefEqProofs [bd, L58b0, hlt, tot]
theorem open_s (s : ByteArray) (hs : s.size ≤ 300000) : ev E0 58 [st s] [] = some (.tup [.sl 0 0 (run 60 0 (B s)).length, i64 ((tot (run 60 0 (B s)) : Nat) : Int)], [some ⟨33, 2, 1, false, ((run 60 0 (B s)).map (·.1)).map recE⟩]) := by
  rw [e58]
  unfold runF
  have h := open_loop s hs 60 [] 0 rfl (Nat.zero_le _)
  rw [c0, List.length_nil, List.drop_zero, Nat.zero_add, List.nil_append, List.length_map, List.map_nil] at h
  simp -implicitDefEqProofs [L58, h]
-- ---------------------------------------------------------------- the program
theorem cut_i (s : ByteArray) (hs : s.size ≤ 1073741824) (b : UInt8) : ev E0 71 [st s, st ⟨#[b]⟩] [] = some (.tup [st (mk (upto b (B s))), st (mk (past b (B s))), bl (decide (b ∈ B s))], []) := by
  rw [e71]
  show (if _ then _ else _) = _
  rw [if_pos (by omega)]
  have := cut_one (B s) b
  have h2 : Lib.cut s.data.toList (⟨#[b]⟩ : ByteArray).data.toList = Lib.cut (B s) [b] := rfl
  rw [h2, this]
  rfl
theorem read_loop (s : ByteArray) (hs : s.size ≤ 300000) : ∀ (m : Nat) (acc : List R) (es : List Int) (at_ : Nat), acc.length + m = 60 → es.length = acc.length + 1 → at_ ≤ s.size →
    packX 0 [4, 5] (loopW (bd E0 (ev E0) loopW 0 [0, 4, 5, 6] L61b0) ⟨[(0, st s), (4, .sl 0 0 acc.length), (5, .sl 1 0 es.length), (6, i64 at_)], [some ⟨33, 2, 1, false, acc.map recE⟩, some ⟨3, 1, 1, false, es.map i64⟩]⟩) =
      some (.ext 0, ⟨[(4, .sl 0 0 (acc ++ (run m acc.length ((B s).drop at_)).map (·.1)).length), (5, .sl 1 0 (es ++ ends at_ (run m acc.length ((B s).drop at_))).length)], [some ⟨33, 2, 1, false, (acc ++ (run m acc.length ((B s).drop at_)).map (·.1)).map recE⟩, some ⟨3, 1, 1, false, (es ++ ends at_ (run m acc.length ((B s).drop at_))).map i64⟩]⟩) := by
  intro m
  induction m with
  | zero =>
    intro acc es at_ ha he hat
    have h60 : ¬ acc.length < 60 := by omega
    have h60' : ¬ (acc.length : Int) < 60 := by omega
    have hr : run 0 acc.length ((B s).drop at_) = [] := rfl
    rw [hr, loopW_eq]
    generalize loopW (bd E0 (ev E0) loopW 0 [0, 4, 5, 6] L61b0) = K
    simp -implicitDefEqProofs [bd, L61b0, h60, h60', ends]
  | succ m ih =>
    intro acc es at_ ha he hat
    have h60 : acc.length < 60 := by omega
    have h60' : (acc.length : Int) < 60 := by omega
    have hex : s.extract at_ s.size = mk ((B s).drop at_) := from_mk s at_
    have hll : ((B s).drop at_).length = s.size - at_ := by rw [List.length_drop, B_len]
    have hle : (at_ : Int) ≤ (s.size : Int) := by omega
    have hih := fun e z (hz : at_ + z ≤ s.size) => ih (acc ++ [e]) (es ++ [((at_ + z : Nat) : Int)]) (at_ + z) (by simp; omega) (by simp [he]) hz
    have hdrop : ∀ z, (B s).drop (at_ + z) = ((B s).drop at_).drop z := fun z => by rw [List.drop_drop]
    simp only [hdrop] at hih
    generalize (B s).drop at_ = l at *
    have hul := upto_len 10 l
    have hls : (mk l).size = l.length := mk_size l
    have c1 := cut_i (mk l) (by omega) 10
    rw [B_mk'] at c1
    rw [loopW_eq]
    generalize loopW (bd E0 (ev E0) loopW 0 [0, 4, 5, 6] L61b0) = K at hih ⊢
    by_cases hm : (10 : UInt8) ∈ l
    · rw [decide_eq_true hm] at c1
      have hfs : (mk (upto 10 l)).size = (upto 10 l).length := mk_size _
      have hul2 := upto_len 35 (upto 10 l)
      have c2 := cut_i (mk (upto 10 l)) (by omega) 35
      rw [B_mk'] at c2
      have c3 := cut_i (mk (upto 35 (upto 10 l))) (by rw [mk_size]; omega) 32
      rw [B_mk'] at c3
      have hp1 : (past 32 (upto 35 (upto 10 l))).length ≤ 400000 := by unfold past; rw [List.length_drop]; omega
      have c4 := cut_i (mk (past 32 (upto 35 (upto 10 l)))) (by rw [mk_size]; omega) 64
      rw [B_mk'] at c4
      have hc : cand (upto 10 l) = (upto 64 (past 32 (upto 35 (upto 10 l))), past 64 (past 32 (upto 35 (upto 10 l)))) := rfl
      have hp2 := upto_len 64 (past 32 (upto 35 (upto 10 l)))
      have hp3 : (past 64 (past 32 (upto 35 (upto 10 l)))).length ≤ 400000 := by
        have : (past 64 (past 32 (upto 35 (upto 10 l)))).length ≤ (past 32 (upto 35 (upto 10 l))).length := by
          generalize past 32 (upto 35 (upto 10 l)) = q
          unfold past
          rw [List.length_drop]
          omega
        omega
      generalize upto 64 (past 32 (upto 35 (upto 10 l))) = C at *
      generalize past 64 (past 32 (upto 35 (upto 10 l))) = A at *
      generalize decide ((35 : UInt8) ∈ upto 10 l) = z2 at *
      generalize decide ((32 : UInt8) ∈ upto 35 (upto 10 l)) = z3 at *
      generalize decide ((64 : UInt8) ∈ past 32 (upto 35 (upto 10 l))) = z4 at *
      generalize mk (past 10 l) = y1 at *
      generalize mk (past 35 (upto 10 l)) = y2 at *
      generalize mk (upto 32 (upto 35 (upto 10 l))) = y3 at *
      generalize mk (past 32 (upto 35 (upto 10 l))) = y4 at *
      generalize mk (upto 35 (upto 10 l)) = y5 at *
      have henc := encode_i acc.length (by omega) (mk C) (mk A) (by rw [mk_size]; omega) (by rw [mk_size]; omega)
      rw [B_mk', B_mk'] at henc
      have h10 : (⟨#[10]⟩ : ByteArray).size = 1 := rfl
      have b2 : (mk (upto 10 l)).size + (⟨#[10]⟩ : ByteArray).size ≤ 9223372036854775807 := by omega
      have hs10 : mk (upto 10 l) ++ (⟨#[10]⟩ : ByteArray) = mk (upto 10 l ++ [10]) := mkB1 10 _
      by_cases h5 : okRec (mk C) (mk A) = true
      · rw [if_pos h5] at henc
        by_cases h6 : enc (acc.length : Int) C A = upto 10 l ++ [10]
        · have hst : step (acc.length : Int) l = some ((mk C, mk A), (upto 10 l).length + 1) := by
            unfold step dec
            rw [if_pos hm, hc, if_pos ⟨h5, h6⟩]
            rfl
          have hz := step_len hst
          have hrun : run (m + 1) acc.length l = ((mk C, mk A), (upto 10 l).length + 1) :: run m (acc.length + 1) (l.drop ((upto 10 l).length + 1)) := by
            conv => lhs; unfold run
            rw [hst]
          have h := hih (mk C, mk A) ((upto 10 l).length + 1) (by omega)
          rw [List.length_append, List.length_singleton, List.length_append, List.length_singleton] at h
          have e1 : acc ++ (run (m + 1) acc.length l).map (·.1) = (acc ++ [((mk C, mk A) : R)]) ++ (run m (acc.length + 1) (l.drop ((upto 10 l).length + 1))).map (·.1) := by rw [hrun]; simp
          have e2 : es ++ ends at_ (run (m + 1) acc.length l) = (es ++ [((at_ + ((upto 10 l).length + 1) : Nat) : Int)]) ++ ends (at_ + ((upto 10 l).length + 1)) (run m (acc.length + 1) (l.drop ((upto 10 l).length + 1))) := by rw [hrun]; simp [ends]
          rw [e1, e2]
          generalize (acc ++ [((mk C, mk A) : R)]) ++ (run m (acc.length + 1) (l.drop ((upto 10 l).length + 1))).map (·.1) = X at h ⊢
          generalize (es ++ [((at_ + ((upto 10 l).length + 1) : Nat) : Int)]) ++ ends (at_ + ((upto 10 l).length + 1)) (run m (acc.length + 1) (l.drop ((upto 10 l).length + 1))) = Y at h ⊢
          have w1 : IntKind.i64.wrap (((upto 10 l).length : Int) + 1) = ((upto 10 l).length : Int) + 1 := wr64 (by omega) (by omega)
          have w2 : IntKind.i64.wrap ((at_ : Int) + (((upto 10 l).length : Int) + 1)) = (at_ : Int) + (((upto 10 l).length : Int) + 1) := wr64 (by omega) (by omega)
          have b3 : (acc.length + 1) * 32 ≤ 140737488355328 := by omega
          have b4 : acc.length + 1 ≤ 140737488355328 := by omega
          have b5 : (es.length + 1) * 8 ≤ 140737488355328 := by omega
          have b6 : es.length + 1 ≤ 140737488355328 := by omega
          have e3 : ((at_ + ((upto 10 l).length + 1) : Nat) : Int) = (at_ : Int) + (((upto 10 l).length : Int) + 1) := by omega
          rw [e3, List.map_append, List.map_append] at h
          rw [h6, ← hs10] at henc
          have b7 : (upto 10 l).length + (⟨#[10]⟩ : ByteArray).size ≤ 9223372036854775807 := by omega
          simpa -implicitDefEqProofs [bd, L61b0, h60, h60', hle, hex, c1, c2, c3, c4, henc, b2, b7, hfs, w1, w2, b3, b4, b5, b6, recE] using h
        · have hst : step (acc.length : Int) l = none := by
            unfold step dec
            rw [if_pos hm, hc, if_neg (fun h => h6 h.2)]
            rfl
          have hrun : run (m + 1) acc.length l = [] := by
            unfold run
            rw [hst]
          have hne : ¬ mk (enc (acc.length : Int) C A) = mk (upto 10 l) ++ (⟨#[10]⟩ : ByteArray) := fun h => h6 (by
            have := congrArg B h
            rwa [hs10, B_mk', B_mk'] at this)
          rw [hrun]
          simp -implicitDefEqProofs [bd, L61b0, h60, h60', hle, hex, c1, c2, c3, c4, henc, b2, hne, ends]
      · rw [if_neg h5] at henc
        have hst : step (acc.length : Int) l = none := by
          unfold step dec
          rw [if_pos hm, hc, if_neg (fun h => h5 h.1)]
          rfl
        have hrun : run (m + 1) acc.length l = [] := by
          unfold run
          rw [hst]
        rw [hrun]
        simp -implicitDefEqProofs [bd, L61b0, h60, h60', hle, hex, c1, c2, c3, c4, henc, ends]
    · rw [decide_eq_false hm] at c1
      have hst : step (acc.length : Int) l = none := by
        unfold step
        rw [if_neg hm]
      have hrun : run (m + 1) acc.length l = [] := by
        unfold run
        rw [hst]
      rw [hrun]
      simp -implicitDefEqProofs [bd, L61b0, h60, h60', hle, hex, c1, ends]
theorem read_i (s : ByteArray) (hs : s.size ≤ 300000) : ev E0 61 [st s] [] = some (.tup [.sl 0 0 (run 60 0 (B s)).length, .sl 1 0 ((0 : Int) :: ends 0 (run 60 0 (B s))).length], [some ⟨33, 2, 1, false, ((run 60 0 (B s)).map (·.1)).map recE⟩, some ⟨3, 1, 1, false, ((0 : Int) :: ends 0 (run 60 0 (B s))).map i64⟩]) := by
  rw [e61]
  unfold runF
  have h := read_loop s hs 60 [] [0] 0 rfl rfl (Nat.zero_le _)
  rw [c0, List.length_nil, List.drop_zero, List.nil_append, List.length_map, List.map_nil, List.length_singleton, List.singleton_append] at h
  generalize (0 : Int) :: ends 0 (run 60 0 (B s)) = E at h ⊢
  generalize ((run 60 0 (B s)).map (·.1)).map recE = X at h ⊢
  rw [show List.map i64 [0] = [i64 0] from rfl] at h
  simp -implicitDefEqProofs [L61, h]
end Go.Proofs.YtbbnecjaojobfaaDoor.Ev.Lg
