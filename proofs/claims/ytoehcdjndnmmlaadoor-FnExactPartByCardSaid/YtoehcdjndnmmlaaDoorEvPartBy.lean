/- Parts of letters handed out: they are compared, marked and held. -/
import Derived.Test.YtoehcdjndnmmlaaDoorEvFirstI
set_option linter.unusedVariables false
set_option linter.unusedSimpArgs false
namespace Go.Proofs.YtoehcdjndnmmlaaDoor.Ev
theorem reach_keep (H : Hp) (h0 : Nat) (acc : List Nat) : ∀ (d : Nat) (l : List Nat), (∀ x ∈ l, x < h0 ∨ x ∈ acc) → reach H h0 d l acc = acc
  | 0, l, h => rfl
  | d + 1, [], h => rfl
  | d + 1, id :: r, h => by
    have h1 : (decide (id < h0) || acc.contains id) = true := by
      rcases h id (by simp) with h | h
      · simp [h]
      · simp [h]
    simp only [reach, h1, if_true]
    exact reach_keep H h0 acc d r fun x hx => h x (by simp [hx])
/-- One block was made, and is named. -/
theorem packH_one {H : Hp} {b : Blk} {h0 : Nat} (hh : H.length = h0) (hs : Stable H) (hb : ∀ x ∈ blkIds b, x < h0) (hr : rnmB (newId h0 [h0]) b = some b) : packH h0 (H ++ [some b]) [h0] = some ([h0], H ++ [some b]) := by
  subst hh
  have h1 : (H ++ [some b]).take H.length = H := by simp
  have hg : hget (H ++ [some b]) H.length = some b := by unfold hget; simp
  have h2 : reach (H ++ [some b]) H.length 64 ([H.length] ++ oldIds ((H ++ [some b]).take H.length)) [] = [H.length] := by
    rw [h1, List.singleton_append]
    have hn : (decide (H.length < H.length) || ([] : List Nat).contains H.length) = false := by simp
    rw [reach]
    simp only [hn, hg, Bool.false_eq_true, if_false, List.nil_append]
    refine reach_keep _ _ _ _ _ fun x hx => ?_
    rcases List.mem_append.1 hx with h | h
    · exact .inl (hb x h)
    · exact .inl (hs.1 x h)
  have h3 : rnmH (newId H.length [H.length]) H = some H := by
    refine rnmH_le (fun i j hi => ?_) _ _ hs.2
    unfold newId at hi ⊢
    by_cases hlt : i < H.length
    · rw [if_pos hlt] at hi ⊢; exact hi
    · rw [if_neg hlt] at hi; simp at hi
  unfold packH
  simp only [h2]
  rw [h1, h3, picked, picked, hg, rnmH, rnmO, hr]
  rfl
/-- A row's marks. -/
def RowAt (H : Hp) (A : AV) (l : List Nat) : Prop := (A = .v (.slice none 0 0) ∧ l = []) ∨ ∃ id, A = .sl id 0 l.length ∧ hget H id = some ⟨3, 1, 1, false, i64n l⟩
def mrk (H : Hp) (A : AV) (c : Int) (n : Nat) : Hp :=
  match A with
  | .sl id _ _ => H.set id (some ⟨3, 1, 1, false, i64s (seqI c n)⟩)
  | _ => H
theorem i64n_s (l : List Nat) : i64n l = i64s (l.map fun n : Nat => (n : Int)) := by unfold i64n i64s; rw [List.map_map]; rfl
theorem mark_row (H : Hp) (A : AV) (l : List Nat) (c : Int) (h : RowAt H A l) (hs : Stable H) (hl : l.length ≤ 1073741824) (h0 : 0 ≤ c) (h1 : c ≤ 1099511627776) :
    ev E0 29 [A, i64 c] H = some (i64 (c + l.length), mrk H A c l.length) := by
  rcases h with ⟨rfl, rfl⟩ | ⟨id, rfl, hg⟩
  · have := mark_nil H c hs
    rw [this]
    simp [mrk]
  · rw [i64n_s] at hg
    have := mark_ints H id (l.map fun n : Nat => (n : Int)) c hg hs (by simp; omega) h0 h1
    rw [List.length_map] at this
    exact this
theorem mrk_len (H : Hp) (A : AV) (c : Int) (n : Nat) : (mrk H A c n).length = H.length := by
  unfold mrk
  split <;> simp
theorem mrk_stable {H : Hp} {A : AV} {l : List Nat} (h : RowAt H A l) (hs : Stable H) (c : Int) (n : Nat) : Stable (mrk H A c n) := by
  rcases h with ⟨rfl, rfl⟩ | ⟨id, rfl, hg⟩
  · exact hs
  · exact stable_set hs hg (by simp) 3 1 1 false (by simp) _
theorem mrk_snoc {H : Hp} {A : AV} {l : List Nat} (h : RowAt H A l) (b : Option Blk) (c : Int) (n : Nat) : mrk (H ++ [b]) A c n = mrk H A c n ++ [b] := by
  rcases h with ⟨rfl, rfl⟩ | ⟨id, rfl, hg⟩
  · rfl
  · have hid : id < H.length := (List.getElem?_eq_some_iff.1 (hget_some hg)).1
    simp only [mrk]
    rw [List.set_append_left _ _ hid]
theorem RowAt.snoc {H : Hp} {A : AV} {l : List Nat} (h : RowAt H A l) (b : Option Blk) : RowAt (H ++ [b]) A l := by
  rcases h with h | ⟨id, rfl, hg⟩
  · exact .inl h
  · have hid : id < H.length := (List.getElem?_eq_some_iff.1 (hget_some hg)).1
    refine .inr ⟨id, rfl, ?_⟩
    have := hget_some hg
    unfold hget
    rw [List.getElem?_append_left hid, this]
theorem RowAt.facts {H : Hp} {A : AV} {l : List Nat} (h : RowAt H A l) {h0 : Nat} (hh : H.length = h0) : A.one = true ∧ A.cells = [A] ∧ (∀ x ∈ ids 4 A, x < h0) ∧ (∀ acc, rnm (newId h0 acc) 4 A = some A) ∧ (∀ acc, rnm (newId h0 acc) 5 A = some A) := by
  subst hh
  rcases h with ⟨rfl, rfl⟩ | ⟨id, rfl, hg⟩
  · exact ⟨rfl, rfl, by simp [ids], fun _ => rfl, fun _ => rfl⟩
  · have hid : id < H.length := (List.getElem?_eq_some_iff.1 (hget_some hg)).1
    exact ⟨rfl, rfl, by simp [ids, hid], fun acc => by simp [rnm, newId, hid], fun acc => by simp [rnm, newId, hid]⟩
theorem mark3_step (h0 : Nat) (H H1 : Hp) (A B C X : AV) (k : Nat) (c c1 : Int) (hk : (k = 0 ∧ X = A) ∨ (k = 1 ∧ X = B) ∨ (k = 2 ∧ X = C)) (hl : H.length = h0) (hl1 : H1.length = h0) (hs1 : Stable H1)
    (hm : ev E0 29 [X, i64 c] (H ++ [some ⟨51, 3, 0, false, [.agg [A, B, C]]⟩]) = some (i64 c1, H1 ++ [some ⟨51, 3, 0, false, [.agg [A, B, C]]⟩]))
    (hb : ∀ x ∈ blkIds ⟨51, 3, 0, false, [.agg [A, B, C]]⟩, x < h0) (hr : rnmB (newId h0 [h0]) ⟨51, 3, 0, false, [.agg [A, B, C]]⟩ = some ⟨51, 3, 0, false, [.agg [A, B, C]]⟩) :
    bd E0 (ev E0) loopW h0 [1, 2, 5] L45b0 ⟨[(1, i64 c), (2, .ptr h0 0 0), (5, i64 k)], H ++ [some ⟨51, 3, 0, false, [.agg [A, B, C]]⟩]⟩ = some (.nrm, ⟨[(1, i64 c1), (2, .ptr h0 0 0), (5, i64 ((k + 1 : Nat) : Int))], H1 ++ [some ⟨51, 3, 0, false, [.agg [A, B, C]]⟩]⟩) := by
  have hg : (H ++ [some (⟨51, 3, 0, false, [.agg [A, B, C]]⟩ : Blk)])[h0]? = some (some ⟨51, 3, 0, false, [.agg [A, B, C]]⟩) := by subst hl; simp
  have pk := packH_one hl1 hs1 hb hr
  have hw : IntKind.i64.wrap ((k : Int) + 1) = (k : Int) + 1 := wr64 (by omega) (by omega)
  have hren : newId h0 [h0] h0 = some h0 := by unfold newId; simp
  rcases hk with ⟨rfl, rfl⟩ | ⟨rfl, rfl⟩ | ⟨rfl, rfl⟩ <;> simp at hw <;> simp -implicitDefEqProofs [bd, L45b0, hg, hm, hw, -packH, -newId, pk, hren]
theorem elem3 {A B C : AV} (a : A.one = true) (b : B.one = true) (c : C.one = true) : elemOk 3 (.agg [A, B, C]) = true := by
  show (3 == 3 && (A.one && (B.one && (C.one && true)))) = true
  rw [a, b, c]
  rfl
theorem mark3 (H : Hp) (A B C : AV) (a b c : List Nat) (hA : RowAt H A a) (hB : RowAt (mrk H A 1 a.length) B b) (hB0 : RowAt H B b) (hC0 : RowAt H C c) (hC : RowAt (mrk (mrk H A 1 a.length) B (1 + a.length) b.length) C c) (hs : Stable H) (la : a.length ≤ 1073741824) (lb : b.length ≤ 1073741824) (lc : c.length ≤ 1073741824) :
    ev E0 45 [.agg [A, B, C], i64 1] H = some (i64 (1 + a.length + b.length + c.length), mrk (mrk (mrk H A 1 a.length) B (1 + a.length) b.length) C (1 + a.length + b.length) c.length) := by
  obtain ⟨h0, hl⟩ : ∃ h0, H.length = h0 := ⟨_, rfl⟩
  obtain ⟨o1, k1, i1, r1, q1⟩ := hA.facts hl
  obtain ⟨o2, k2, i2, r2, q2⟩ := hB0.facts hl
  obtain ⟨o3, k3, i3, r3, q3⟩ := hC0.facts hl
  have hb : ∀ x ∈ blkIds ⟨51, 3, 0, false, [.agg [A, B, C]]⟩, x < h0 := by
    intro x hx
    simp [blkIds, idsL, ids] at hx
    rcases hx with h | h | h
    · exact i1 x h
    · exact i2 x h
    · exact i3 x h
  have hr : ∀ acc, rnmB (newId h0 acc) ⟨51, 3, 0, false, [.agg [A, B, C]]⟩ = some ⟨51, 3, 0, false, [.agg [A, B, C]]⟩ := by
    intro acc
    simp [rnmB, rnmL, rnm, r1, r2, r3]
  have sA := mrk_stable hA hs 1 a.length
  have sB := mrk_stable hB sA (1 + a.length) b.length
  have sC := mrk_stable hC sB (1 + a.length + b.length) c.length
  have lA : (mrk H A 1 a.length).length = h0 := by rw [mrk_len, hl]
  have lB : (mrk (mrk H A 1 a.length) B (1 + a.length) b.length).length = h0 := by rw [mrk_len, lA]
  have lC : (mrk (mrk (mrk H A 1 a.length) B (1 + a.length) b.length) C (1 + a.length + b.length) c.length).length = h0 := by rw [mrk_len, lB]
  have up : ∀ {H : Hp}, H.length = h0 → Stable H → Stable (H ++ [some ⟨51, 3, 0, false, [.agg [A, B, C]]⟩]) := by
    intro H hl hs
    refine hs.snoc (fun x hx => ?_) ?_
    · have := hb x hx; omega
    · rw [hl]
      have := hr []
      simp [rnmB, rnmL, rnm] at this ⊢
      have le := fun (X : AV) (h : rnm (newId h0 []) 4 X = some X) => rnmL_le (newId_le (Nat.le_succ h0)) 4 X X h
      rw [le A (r1 []), le B (r2 []), le C (r3 [])]
      rfl
  have m1 := mark_row _ A a 1 (hA.snoc (some ⟨51, 3, 0, false, [.agg [A, B, C]]⟩)) (up hl hs) la (by omega) (by omega)
  have m2 := mark_row _ B b (1 + a.length) (hB.snoc (some ⟨51, 3, 0, false, [.agg [A, B, C]]⟩)) (up lA sA) lb (by omega) (by omega)
  have m3 := mark_row _ C c (1 + a.length + b.length) (hC.snoc (some ⟨51, 3, 0, false, [.agg [A, B, C]]⟩)) (up lB sB) lc (by omega) (by omega)
  rw [mrk_snoc hA] at m1
  rw [mrk_snoc hB] at m2
  rw [mrk_snoc hC] at m3
  have s0 := mark3_step h0 H _ A B C A 0 1 _ (.inl ⟨rfl, rfl⟩) hl lA sA m1 hb (hr _)
  have s1 := mark3_step h0 _ _ A B C B 1 _ _ (.inr (.inl ⟨rfl, rfl⟩)) lA lB sB m2 hb (hr _)
  have s2 := mark3_step h0 _ _ A B C C 2 _ _ (.inr (.inr ⟨rfl, rfl⟩)) lB lC sC m3 hb (hr _)
  generalize mrk (mrk (mrk H A 1 a.length) B (1 + a.length) b.length) C (1 + a.length + b.length) c.length = H3 at *
  have pk := packH_one lC sC hb (hr [h0])
  have pk0 := packH_one hl hs hb (hr [h0])
  have hren : newId h0 [h0] h0 = some h0 := by unfold newId; simp
  have pe : ∀ roots, (∀ q ∈ roots, q < h0) → packH h0 (H3 ++ [some ⟨51, 3, 0, false, [.agg [A, B, C]]⟩]) roots = some ([], H3) := fun roots h => packH_lo lC sC h
  have pf : ∀ roots, (∀ q ∈ roots, q < h0) → packH h0 H3 roots = some ([], H3) := fun roots h => packH_lo0 lC sC h
  have hlp : packX h0 [1] (loopW (bd E0 (ev E0) loopW h0 [1, 2, 5] L45b0) ⟨[(1, i64 1), (2, .ptr h0 0 0), (5, i64 0)], H ++ [some ⟨51, 3, 0, false, [.agg [A, B, C]]⟩]⟩) = some (.ext 0, ⟨[(1, i64 (1 + a.length + b.length + c.length))], H3⟩) := by
    rw [loopW_eq]
    rw [show (0 : Int) = ((0 : Nat) : Int) from rfl, s0]
    show packX _ _ (loopW _ _) = _
    rw [loopW_eq]
    rw [s1]
    show packX _ _ (loopW _ _) = _
    rw [loopW_eq]
    rw [s2]
    show packX _ _ (loopW _ _) = _
    rw [loopW_eq]
    generalize loopW (bd E0 (ev E0) loopW h0 [1, 2, 5] L45b0) = K
    simp -implicitDefEqProofs [bd, L45b0, -packH, pe]
  rw [e45]
  unfold runF
  rw [hl]
  simp -implicitDefEqProofs [L45, -elemOk, elem3 o1 o2 o3, hl, -packH, -newId, pk0, hren, hlp, pf]
end Go.Proofs.YtoehcdjndnmmlaaDoor.Ev
