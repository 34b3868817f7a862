/- The draws of records and logs. -/
import Derived.Test.YtbbnecjaojobfaaDoorEvDraw
import Derived.Test.YtbbnecjaojobfaaDoorEvLogA
set_option linter.unusedVariables false
set_option linter.unusedSimpArgs false
namespace Go.Proofs.YtbbnecjaojobfaaDoor.Ev.Dr
def cmds : List ByteArray := [⟨#[116, 97, 98, 108, 101]⟩, ⟨#[107, 101, 121, 32, 49]⟩, ⟨#[120]⟩, ⟨#[97, 100, 100, 32, 46, 45]⟩, ⟨#[48, 32, 49]⟩]
def reps : List ByteArray := [⟨#[]⟩, ⟨#[51]⟩, ⟨#[63]⟩, ⟨#[97, 64, 98]⟩, ⟨#[51, 32, 49, 32, 50]⟩]
def bads : List ByteArray := [⟨#[]⟩, ⟨#[97, 64, 98]⟩, ⟨#[97, 35]⟩, ⟨#[10]⟩, ⟨#[0, 0, 0]⟩]
def badr : List ByteArray := [⟨#[35]⟩, ⟨#[10]⟩, ⟨#[127]⟩]
theorem small : ∀ t : ByteArray, t ∈ cmds ∨ t ∈ reps ∨ t ∈ bads ∨ t ∈ badr → t.size ≤ 8 := by
  intro t h
  simp only [cmds, reps, bads, badr, List.mem_cons, List.not_mem_nil, or_false] at h
  rcases h with (h | h | h | h | h) | (h | h | h | h | h) | (h | h | h | h | h) | (h | h | h) <;> subst h <;> decide
def rb (c r : ByteArray) : Blk := ⟨33, 2, 0, false, [.agg [st c, st r]]⟩
def tb (l : List ByteArray) : Blk := ⟨9, 1, 1, false, l.map st⟩
theorem leaf_rb (c r : ByteArray) : leafB (rb c r) := ⟨rfl, fun _ => rfl⟩
theorem leaf_tb (l : List ByteArray) : leafB (tb l) := ⟨rfl, fun _ => rfl⟩
def zb : Blk := ⟨5, 1, 1, false, [.v (.int .u8 0), .v (.int .u8 0), .v (.int .u8 0)]⟩
theorem leaf_zb : leafB zb := ⟨rfl, fun _ => rfl⟩
theorem record_ok (x : List Int) (hx : okC x) (H : Hp) (id : Nat) (a s : Int) (h : hget H id = some (cu x a s)) (hs : Stable H) (h0 : 0 ≤ a) (h1 : a ≤ 274877906944) :
    ∃ (a' s' : Int) (c r : ByteArray), a ≤ a' ∧ a' ≤ a + 8 ∧ c.size ≤ 8 ∧ r.size ≤ 8 ∧ ev E0 48 [.ptr id 0 0] H = some (.agg [st c, st r], H.set id (some (cu x a' s'))) := by
  have hid := id_lt h
  have pk := pk_cu2 h hs
  obtain ⟨a1, s1, c, p1, q1, hc, e1⟩ := of_fr x hx H [rb ⟨#[]⟩ ⟨#[]⟩] id a s h hs (by intro b hb; simp at hb; subst hb; exact leaf_rb _ _) h0 (by omega) cmds (by decide)
  have hs1 := stable_cu hs h a1 s1
  have hl1 : (H.set id (some (cu x a1 s1))).length = H.length := List.length_set
  obtain ⟨a2, s2, r, p2, q2, hr, e2⟩ := of_fr x hx _ [rb ⟨#[]⟩ ⟨#[]⟩, tb cmds] id a1 s1 (hget_cu hid) hs1 (by intro b hb; simp at hb; rcases hb with rfl | rfl; exact leaf_rb _ _; exact leaf_tb _) (by omega) (by omega) reps (by decide)
  have hs2 := stable_cu hs h a2 s2
  have hl2 : (H.set id (some (cu x a2 s2))).length = H.length := List.length_set
  obtain ⟨a3, s3, k, p3, q3, k0, k1, e3⟩ := pick_fr x hx _ [rb ⟨#[]⟩ ⟨#[]⟩, tb cmds, tb reps, rb c r] id a2 s2 (hget_cu hid) hs2 (by
    intro b hb
    simp at hb
    rcases hb with rfl | rfl | rfl | rfl
    · exact leaf_rb _ _
    · exact leaf_tb _
    · exact leaf_tb _
    · exact leaf_rb _ _) (by omega) (by omega) 24
  rw [List.set_set, hl1] at e2
  rw [List.set_set] at e3
  rw [e48]
  unfold runF
  have zc := small c (.inl hc)
  have zr := small r (.inr (.inl hr))
  simp only [List.map_cons, List.map_nil, List.length_cons, List.length_nil, Nat.zero_add, List.cons_append, List.nil_append, Nat.reduceAdd, rb, tb, cmds, reps] at e1 e2 e3
  have ha3 := stable_cu hs h a3 s3
  by_cases hk0 : k = 0
  · obtain ⟨a4, s4, c4, p4, q4, hc4, e4⟩ := of_fr x hx _ [rb ⟨#[]⟩ ⟨#[]⟩, tb cmds, tb reps, rb c r, zb] id a3 s3 (hget_cu hid) ha3 (by
      intro b hb
      simp at hb
      rcases hb with rfl | rfl | rfl | rfl | rfl
      · exact leaf_rb _ _
      · exact leaf_tb _
      · exact leaf_tb _
      · exact leaf_rb _ _
      · exact leaf_zb) (by omega) (by omega) bads (by decide)
    have zc4 := small c4 (.inr (.inr (.inl hc4)))
    have hl3 : (H.set id (some (cu x a3 s3))).length = H.length := List.length_set
    rw [List.set_set, hl3] at e4
    simp only [List.map_cons, List.map_nil, List.length_cons, List.length_nil, Nat.zero_add, List.cons_append, List.nil_append, Nat.reduceAdd, rb, tb, zb, cmds, reps, bads] at e4
    have hb0 : bytesOf [.v (.int .u8 0), .v (.int .u8 0), .v (.int .u8 0)] = some [0, 0, 0] := rfl
    refine ⟨a4, s4, c4, r, by omega, by omega, zc4, zr, ?_⟩
    simp -implicitDefEqProofs [L48, e1, e2, e3, e4, hk0, hb0, -pack, -packH, pk]
  · by_cases hk1 : k = 1
    · obtain ⟨a4, s4, r4, p4, q4, hr4, e4⟩ := of_fr x hx _ [rb ⟨#[]⟩ ⟨#[]⟩, tb cmds, tb reps, rb c r] id a3 s3 (hget_cu hid) ha3 (by
        intro b hb
        simp at hb
        rcases hb with rfl | rfl | rfl | rfl
        · exact leaf_rb _ _
        · exact leaf_tb _
        · exact leaf_tb _
        · exact leaf_rb _ _) (by omega) (by omega) badr (by decide)
      have zr4 := small r4 (.inr (.inr (.inr hr4)))
      have hl3 : (H.set id (some (cu x a3 s3))).length = H.length := List.length_set
      rw [List.set_set, hl3] at e4
      simp only [List.map_cons, List.map_nil, List.length_cons, List.length_nil, Nat.zero_add, List.cons_append, List.nil_append, Nat.reduceAdd, rb, tb, zb, cmds, reps, badr] at e4
      refine ⟨a4, s4, c, r4, by omega, by omega, zc, zr4, ?_⟩
      simp -implicitDefEqProofs [L48, e1, e2, e3, e4, hk0, hk1, -pack, -packH, pk]
    · refine ⟨a3, s3, c, r, by omega, by omega, zc, zr, ?_⟩
      simp -implicitDefEqProofs [L48, e1, e2, e3, hk0, hk1, -pack, -packH, pk]
theorem record_fr (x : List Int) (hx : okC x) (H : Hp) (bs : List Blk) (id : Nat) (a s : Int) (h : hget H id = some (cu x a s)) (hs : Stable H) (hb : ∀ b ∈ bs, leafB b) (h0 : 0 ≤ a) (h1 : a ≤ 274877906944) :
    ∃ (a' s' : Int) (c r : ByteArray), a ≤ a' ∧ a' ≤ a + 8 ∧ c.size ≤ 8 ∧ r.size ≤ 8 ∧ ev E0 48 [.ptr id 0 0] (H ++ bs.map some) = some (.agg [st c, st r], H.set id (some (cu x a' s')) ++ bs.map some) := by
  obtain ⟨a', s', c, r, k1, k2, k3, k4, e⟩ := record_ok x hx (H ++ bs.map some) id a s (hget_app h) (stable_leaves hs bs hb) h0 h1
  exact ⟨a', s', c, r, k1, k2, k3, k4, by rw [e, set_app h]⟩
/-- Two blocks that name nothing, held behind a memory. -/
theorem packH_two {H : Hp} {b c : Blk} {h0 id : Nat} (hh : H.length = h0) (hs : Stable H) (hid : id < h0) (hb : leafB b) (hc : leafB c) : packH h0 (H ++ [some b, some c]) [id, h0, h0 + 1] = some ([h0, h0 + 1], H ++ [some b, some c]) := by
  subst hh
  have h1 : (H ++ [some b, some c]).take H.length = H := by simp
  have hg : hget (H ++ [some b, some c]) H.length = some b := by unfold hget; simp
  have hg2 : hget (H ++ [some b, some c]) (H.length + 1) = some c := by unfold hget; simp
  have h2 : reach (H ++ [some b, some c]) H.length 64 ([id, H.length, H.length + 1] ++ oldIds ((H ++ [some b, some c]).take H.length)) [] = [H.length, H.length + 1] := by
    rw [h1]
    show reach _ _ (61 + 1 + 1 + 1) (id :: H.length :: (H.length + 1) :: oldIds H) [] = _
    rw [reach]
    simp only [hid, decide_true, Bool.true_or, if_true]
    have hn : (decide (H.length < H.length) || ([] : List Nat).contains H.length) = false := by simp
    have hn2 : (decide (H.length + 1 < H.length) || ([H.length] : List Nat).contains (H.length + 1)) = false := by simp
    rw [reach]
    simp only [hn, hg, Bool.false_eq_true, if_false, List.nil_append, hb.1]
    rw [reach]
    simp only [hn2, hg2, Bool.false_eq_true, if_false, List.nil_append, hc.1, List.cons_append]
    have low : ∀ (d : Nat) (l acc : List Nat), (∀ q ∈ l, q < H.length) → reach (H ++ [some b, some c]) H.length d l acc = acc := by
      intro d
      induction d with
      | zero => intro l acc _; rfl
      | succ d ih =>
        intro l acc hl
        cases l with
        | nil => rfl
        | cons q l =>
          have hq := hl q (by simp)
          simp only [reach, hq, decide_true, Bool.true_or, if_true]
          exact ih l acc fun z hz => hl z (by simp [hz])
    exact low _ _ _ hs.1
  have h3 : rnmH (newId H.length [H.length, H.length + 1]) H = some H := by
    refine rnmH_le (fun i j hi => ?_) _ _ hs.2
    unfold newId at hi ⊢
    by_cases hlt : i < H.length
    · rw [if_pos hlt] at hi ⊢; exact hi
    · rw [if_neg hlt] at hi; simp at hi
  unfold packH
  simp only [h2]
  rw [h1, h3, picked, picked, picked, hg, hg2, rnmH, rnmO, hb.2, rnmH, rnmO, hc.2]
  rfl
theorem packH_two0 {H : Hp} {b c : Blk} {h0 : Nat} (hh : H.length = h0) (hs : Stable H) (hb : leafB b) (hc : leafB c) : packH h0 (H ++ [some b, some c]) [h0, h0 + 1] = some ([h0, h0 + 1], H ++ [some b, some c]) := by
  subst hh
  have h1 : (H ++ [some b, some c]).take H.length = H := by simp
  have hg : hget (H ++ [some b, some c]) H.length = some b := by unfold hget; simp
  have hg2 : hget (H ++ [some b, some c]) (H.length + 1) = some c := by unfold hget; simp
  have h2 : reach (H ++ [some b, some c]) H.length 64 ([H.length, H.length + 1] ++ oldIds ((H ++ [some b, some c]).take H.length)) [] = [H.length, H.length + 1] := by
    rw [h1]
    show reach _ _ (62 + 1 + 1) (H.length :: (H.length + 1) :: oldIds H) [] = _
    have hn : (decide (H.length < H.length) || ([] : List Nat).contains H.length) = false := by simp
    have hn2 : (decide (H.length + 1 < H.length) || ([H.length] : List Nat).contains (H.length + 1)) = false := by simp
    rw [reach]
    simp only [hn, hg, Bool.false_eq_true, if_false, List.nil_append, hb.1]
    rw [reach]
    simp only [hn2, hg2, Bool.false_eq_true, if_false, List.nil_append, hc.1, List.cons_append]
    have low : ∀ (d : Nat) (l acc : List Nat), (∀ q ∈ l, q < H.length) → reach (H ++ [some b, some c]) H.length d l acc = acc := by
      intro d
      induction d with
      | zero => intro l acc _; rfl
      | succ d ih =>
        intro l acc hl
        cases l with
        | nil => rfl
        | cons q l =>
          have hq := hl q (by simp)
          simp only [reach, hq, decide_true, Bool.true_or, if_true]
          exact ih l acc fun z hz => hl z (by simp [hz])
    exact low _ _ _ hs.1
  have h3 : rnmH (newId H.length [H.length, H.length + 1]) H = some H := by
    refine rnmH_le (fun i j hi => ?_) _ _ hs.2
    unfold newId at hi ⊢
    by_cases hlt : i < H.length
    · rw [if_pos hlt] at hi ⊢; exact hi
    · rw [if_neg hlt] at hi; simp at hi
  unfold packH
  simp only [h2]
  rw [h1, h3, picked, picked, picked, hg, hg2, rnmH, rnmO, hb.2, rnmH, rnmO, hc.2]
  rfl
def lb (d p : ByteArray) (n : Int) : Blk := ⟨27, 3, 0, false, [.agg [st d, st p, i64 n]]⟩
theorem leaf_lb (d p : ByteArray) (n : Int) : leafB (lb d p n) := ⟨rfl, fun _ => rfl⟩
open Lg (appP appN appS okLog mk enc okRec app_s sync_s enc_len okLog_sizes mk_size)
theorem appP_size (d p : ByteArray) (n : Int) (c r : ByteArray) : (appP d p n c r).size ≤ p.size + 460 := by
  unfold appP
  split
  · rename_i h
    rw [Bool.and_eq_true] at h
    have h1 := okLog_sizes h.1.1
    have h2 := enc_len (n := n) (by omega) h.1.2
    rw [ByteArray.size_append, mk_size]
    omega
  · omega
theorem log12_loop (x : List Int) (hx : okC x) (H : Hp) (id : Nat) (a0 s0 : Int) (h : hget H id = some (cu x a0 s0)) (hs : Stable H) : ∀ (m : Nat) (a s : Int) (d p : ByteArray) (n : Int), m ≤ 100 → 0 ≤ a → a + 10 * m ≤ 200000000000 → d.size + p.size ≤ 600 * (100 - m) →
    ∃ (a' s' : Int) (d' p' : ByteArray) (n' : Int), a ≤ a' ∧ a' ≤ a + 10 * m ∧ d'.size + p'.size ≤ 60000 ∧
    packX H.length [2, 3] (loopW (bd E0 (ev E0) loopW H.length [0, 2, 3, 4] L59b0) ⟨[(0, .ptr id 0 0), (2, .ptr H.length 0 0), (3, .ptr (H.length + 1) 0 0), (4, i64 m)], H.set id (some (cu x a s)) ++ [some ⟨27, 3, 0, false, [.agg [st ⟨#[]⟩, st ⟨#[]⟩, i64 0]]⟩, some ⟨27, 3, 0, false, [.agg [st d, st p, i64 n]]⟩]⟩) =
      some (.ext 0, ⟨[(2, .ptr H.length 0 0), (3, .ptr (H.length + 1) 0 0)], H.set id (some (cu x a' s')) ++ [some ⟨27, 3, 0, false, [.agg [st ⟨#[]⟩, st ⟨#[]⟩, i64 0]]⟩, some ⟨27, 3, 0, false, [.agg [st d', st p', i64 n']]⟩]⟩) := by
  have hid := id_lt h
  have hls : ∀ b, (H.set id (some (b : Blk))).length = H.length := fun b => List.length_set
  have pk3 : ∀ (a s : Int) (d p : ByteArray) (n : Int), packH H.length (H.set id (some (cu x a s)) ++ [some ⟨27, 3, 0, false, [.agg [st ⟨#[]⟩, st ⟨#[]⟩, i64 0]]⟩, some ⟨27, 3, 0, false, [.agg [st d, st p, i64 n]]⟩]) [id, H.length, H.length + 1] = some ([H.length, H.length + 1], H.set id (some (cu x a s)) ++ [some ⟨27, 3, 0, false, [.agg [st ⟨#[]⟩, st ⟨#[]⟩, i64 0]]⟩, some ⟨27, 3, 0, false, [.agg [st d, st p, i64 n]]⟩]) :=
    fun a s d p n => packH_two (hls _) (stable_cu hs h a s) hid (leaf_lb _ _ _) (leaf_lb _ _ _)
  have pk4 : ∀ (a s : Int) (d p : ByteArray) (n : Int), packH H.length (H.set id (some (cu x a s)) ++ [some ⟨27, 3, 0, false, [.agg [st ⟨#[]⟩, st ⟨#[]⟩, i64 0]]⟩, some ⟨27, 3, 0, false, [.agg [st d, st p, i64 n]]⟩]) [H.length, H.length + 1] = some ([H.length, H.length + 1], H.set id (some (cu x a s)) ++ [some ⟨27, 3, 0, false, [.agg [st ⟨#[]⟩, st ⟨#[]⟩, i64 0]]⟩, some ⟨27, 3, 0, false, [.agg [st d, st p, i64 n]]⟩]) :=
    fun a s d p n => packH_two0 (hls _) (stable_cu hs h a s) (leaf_lb _ _ _) (leaf_lb _ _ _)
  have hn0 : newId H.length [H.length, H.length + 1] id = some id := by unfold newId; rw [if_pos hid]
  have hn1 : newId H.length [H.length, H.length + 1] H.length = some H.length := by unfold newId; rw [if_neg (by omega)]; simp [List.idxOf?, List.findIdx?_cons]
  have hn2 : newId H.length [H.length, H.length + 1] (H.length + 1) = some (H.length + 1) := by unfold newId; rw [if_neg (by omega)]; simp [List.idxOf?, List.findIdx?_cons]
  intro m
  induction m with
  | zero =>
    intro a s d p n _ h0 h1 h2
    refine ⟨a, s, d, p, n, by omega, by omega, by omega, ?_⟩
    rw [loopW_eq]
    generalize loopW (bd E0 (ev E0) loopW H.length [0, 2, 3, 4] L59b0) = K
    simp -implicitDefEqProofs [bd, L59b0, -packH, -newId, pk3, pk4, hn0, hn1, hn2]
  | succ m ih =>
    intro a s d p n hm h0 h1 h2
    have hsa := stable_cu hs h a s
    have hga : hget (H.set id (some (cu x a s))) id = some (cu x a s) := hget_cu hid
    have leaves : ∀ b ∈ [lb ⟨#[]⟩ ⟨#[]⟩ 0, lb d p n], leafB b := by
      intro b hb
      simp at hb
      rcases hb with rfl | rfl <;> exact leaf_lb _ _ _
    obtain ⟨a1, s1, c, r, p1, q1, zc, zr, e1⟩ := record_fr x hx _ [lb ⟨#[]⟩ ⟨#[]⟩ 0, lb d p n] id a s hga hsa leaves h0 (by omega)
    rw [List.set_set] at e1
    have e2 := app_s d p n c r (by omega) (by omega) (by omega) (by omega)
    have z1 := appP_size d p n c r
    generalize appP d p n c r = p2 at *
    generalize appN d p n c r = n2 at *
    generalize appS d p n c r = t2 at *
    have hs1 := stable_cu hs h a1 s1
    have hg1 : hget (H.set id (some (cu x a1 s1))) id = some (cu x a1 s1) := hget_cu hid
    have leaves2 : ∀ b ∈ [lb ⟨#[]⟩ ⟨#[]⟩ 0, lb d p2 n2], leafB b := by
      intro b hb
      simp at hb
      rcases hb with rfl | rfl <;> exact leaf_lb _ _ _
    obtain ⟨a3, s3, q, p3, q3, e3⟩ := one_fr x hx _ [lb ⟨#[]⟩ ⟨#[]⟩ 0, lb d p2 n2] id a1 s1 hg1 hs1 leaves2 (by omega) (by omega) 4
    rw [List.set_set] at e3
    simp only [List.map_cons, List.map_nil, lb] at e1 e3
    have e4 := sync_s d p2 n2 (by omega) (by omega)
    have hw : IntKind.i64.wrap (((m + 1 : Nat) : Int) - 1) = m := by rw [wr64 (by omega) (by omega)]; omega
    rw [cs1] at hw
    have hp0 : (0 : Int) < (m : Int) + 1 := by omega
    have hp1 : 0 < m + 1 := by omega
    have hw2 : IntKind.i64.wrap (m : Int) = m := wr64 (by omega) (by omega)
    cases q with
    | false =>
      obtain ⟨a', s', d', p', n', k1, k2, k3, k4⟩ := ih a3 s3 d p2 n2 (by omega) (by omega) (by omega) (by omega)
      refine ⟨a', s', d', p', n', by omega, by omega, k3, ?_⟩
      rw [loopW_eq, cs1]
      generalize loopW (bd E0 (ev E0) loopW H.length [0, 2, 3, 4] L59b0) = K at k4 ⊢
      simpa -implicitDefEqProofs [bd, L59b0, e1, e2, e3, hw, hw2, hp0, hp1, -packH, -newId, pk3, pk4, hn0, hn1, hn2] using k4
    | true =>
      cases hk : okLog d p2 n2 with
      | false =>
        rw [hk, if_neg (by decide)] at e4
        obtain ⟨a', s', d', p', n', k1, k2, k3, k4⟩ := ih a3 s3 ⟨#[]⟩ ⟨#[]⟩ 0 (by omega) (by omega) (by omega) (by show 0 + 0 ≤ _; omega)
        refine ⟨a', s', d', p', n', by omega, by omega, k3, ?_⟩
        rw [loopW_eq, cs1]
        generalize loopW (bd E0 (ev E0) loopW H.length [0, 2, 3, 4] L59b0) = K at k4 ⊢
        simpa -implicitDefEqProofs [bd, L59b0, e1, e2, e3, e4, hw, hw2, hp0, hp1, -packH, -newId, pk3, pk4, hn0, hn1, hn2] using k4
      | true =>
        rw [hk, if_pos rfl] at e4
        obtain ⟨a', s', d', p', n', k1, k2, k3, k4⟩ := ih a3 s3 (d ++ p2) ⟨#[]⟩ n2 (by omega) (by omega) (by omega) (by rw [ByteArray.size_append]; show _ + 0 ≤ _; omega)
        refine ⟨a', s', d', p', n', by omega, by omega, k3, ?_⟩
        rw [loopW_eq, cs1]
        generalize loopW (bd E0 (ev E0) loopW H.length [0, 2, 3, 4] L59b0) = K at k4 ⊢
        simpa -implicitDefEqProofs [bd, L59b0, e1, e2, e3, e4, hw, hw2, hp0, hp1, -packH, -newId, pk3, pk4, hn0, hn1, hn2] using k4
theorem log12_ok (x : List Int) (hx : okC x) (H : Hp) (id : Nat) (a s : Int) (h : hget H id = some (cu x a s)) (hs : Stable H) (h0 : 0 ≤ a) (h1 : a ≤ 100000000000) :
    ∃ (a' s' : Int) (d p : ByteArray) (n : Int), a ≤ a' ∧ a' ≤ a + 100 ∧ d.size + p.size ≤ 60000 ∧ ev E0 59 [.ptr id 0 0] H = some (.agg [st d, st p, i64 n], H.set id (some (cu x a' s'))) := by
  have hid := id_lt h
  have leaves : ∀ b ∈ [lb ⟨#[]⟩ ⟨#[]⟩ 0, lb ⟨#[]⟩ ⟨#[]⟩ 0], leafB b := by
    intro b hb
    simp at hb
    subst hb
    exact leaf_lb _ _ _
  obtain ⟨a1, s1, r, p1, q1, r0, r1, e1⟩ := pick_fr x hx H [lb ⟨#[]⟩ ⟨#[]⟩ 0, lb ⟨#[]⟩ ⟨#[]⟩ 0] id a s h hs leaves h0 (by omega) 7
  obtain ⟨m, rfl⟩ : ∃ m : Nat, r = m := ⟨r.toNat, by omega⟩
  obtain ⟨a2, s2, d, p, n, p2, q2, z, e2⟩ := log12_loop x hx H id a s h hs m a1 s1 ⟨#[]⟩ ⟨#[]⟩ 0 (by omega) (by omega) (by omega) (by show 0 + 0 ≤ _; omega)
  refine ⟨a2, s2, d, p, n, by omega, by omega, z, ?_⟩
  simp only [List.map_cons, List.map_nil, lb] at e1
  have hls : ∀ b, (H.set id (some (b : Blk))).length = H.length := fun b => List.length_set
  have pk3 : ∀ (a s : Int) (d p : ByteArray) (n : Int), packH H.length (H.set id (some (cu x a s)) ++ [some ⟨27, 3, 0, false, [.agg [st ⟨#[]⟩, st ⟨#[]⟩, i64 0]]⟩, some ⟨27, 3, 0, false, [.agg [st d, st p, i64 n]]⟩]) [id, H.length, H.length + 1] = some ([H.length, H.length + 1], H.set id (some (cu x a s)) ++ [some ⟨27, 3, 0, false, [.agg [st ⟨#[]⟩, st ⟨#[]⟩, i64 0]]⟩, some ⟨27, 3, 0, false, [.agg [st d, st p, i64 n]]⟩]) :=
    fun a s d p n => packH_two (hls _) (stable_cu hs h a s) hid (leaf_lb _ _ _) (leaf_lb _ _ _)
  have hn0 : newId H.length [H.length, H.length + 1] id = some id := by unfold newId; rw [if_pos hid]
  have hn1 : newId H.length [H.length, H.length + 1] H.length = some H.length := by unfold newId; rw [if_neg (by omega)]; simp [List.idxOf?, List.findIdx?_cons]
  have hn2 : newId H.length [H.length, H.length + 1] (H.length + 1) = some (H.length + 1) := by unfold newId; rw [if_neg (by omega)]; simp [List.idxOf?, List.findIdx?_cons]
  have pk := pk_cu2 h hs
  rw [e59]
  unfold runF
  simp -implicitDefEqProofs [L59, e1, e2, -packH, -newId, pk3, hn0, hn1, hn2, pk]
theorem log12_fr (x : List Int) (hx : okC x) (H : Hp) (bs : List Blk) (id : Nat) (a s : Int) (h : hget H id = some (cu x a s)) (hs : Stable H) (hb : ∀ b ∈ bs, leafB b) (h0 : 0 ≤ a) (h1 : a ≤ 100000000000) :
    ∃ (a' s' : Int) (d p : ByteArray) (n : Int), a ≤ a' ∧ a' ≤ a + 100 ∧ d.size + p.size ≤ 60000 ∧ ev E0 59 [.ptr id 0 0] (H ++ bs.map some) = some (.agg [st d, st p, i64 n], H.set id (some (cu x a' s')) ++ bs.map some) := by
  obtain ⟨a', s', d, p, n, k1, k2, k3, e⟩ := log12_ok x hx (H ++ bs.map some) id a s (hget_app h) (stable_leaves hs bs hb) h0 h1
  exact ⟨a', s', d, p, n, k1, k2, k3, by rw [e, set_app h]⟩
theorem anyLog_ok (x : List Int) (hx : okC x) (H : Hp) (id : Nat) (a s : Int) (h : hget H id = some (cu x a s)) (hs : Stable H) (h0 : 0 ≤ a) (h1 : a ≤ 50000000000) :
    ∃ (a' s' : Int) (d p : ByteArray) (n : Int), a ≤ a' ∧ a' ≤ a + 200 ∧ d.size ≤ 70000 ∧ p.size ≤ 70000 ∧ ev E0 53 [.ptr id 0 0] H = some (.agg [st d, st p, i64 n], H.set id (some (cu x a' s'))) := by
  have hid := id_lt h
  have pk := pk_cu2 h hs
  obtain ⟨a1, s1, d, p, n, p1, q1, z, e1⟩ := log12_fr x hx H [lb ⟨#[]⟩ ⟨#[]⟩ 0] id a s h hs (by intro b hb; simp at hb; subst hb; exact leaf_lb _ _ _) h0 (by omega)
  have hs1 := stable_cu hs h a1 s1
  have leaves : ∀ b ∈ [lb ⟨#[]⟩ ⟨#[]⟩ 0, lb d p n], leafB b := by
    intro b hb
    simp at hb
    rcases hb with rfl | rfl <;> exact leaf_lb _ _ _
  obtain ⟨a2, s2, k, p2, q2, k0, k1, e2⟩ := pick_fr x hx _ [lb ⟨#[]⟩ ⟨#[]⟩ 0, lb d p n] id a1 s1 (hget_cu hid) hs1 leaves (by omega) (by omega) 24
  rw [List.set_set] at e2
  have hs2 := stable_cu hs h a2 s2
  simp only [List.map_cons, List.map_nil, lb] at e1 e2
  rw [e53]
  unfold runF
  by_cases hk0 : k = 0
  · refine ⟨a2, s2, d, p, IntKind.i64.wrap (n + 1), by omega, by omega, by omega, by omega, ?_⟩
    simp -implicitDefEqProofs [L53, e1, e2, hk0, -packH, pk]
  · by_cases hk1 : k = 1
    · obtain ⟨a3, s3, t, p3, q3, zt, e3⟩ := spoilt_fr x hx _ [lb ⟨#[]⟩ ⟨#[]⟩ 0, lb d p n] id a2 s2 (hget_cu hid) hs2 leaves (by omega) (by omega) p ⟨#[35, 64, 10, 48, 49]⟩ (by omega) (by decide) (by decide)
      rw [List.set_set] at e3
      simp only [List.map_cons, List.map_nil, lb] at e3
      refine ⟨a3, s3, d, t, n, by omega, by omega, by omega, by omega, ?_⟩
      simp -implicitDefEqProofs [L53, e1, e2, e3, hk0, hk1, -packH, pk]
    · by_cases hk2 : k = 2
      · refine ⟨a2, s2, d ++ p, p, n, by omega, by omega, by rw [ByteArray.size_append]; omega, by omega, ?_⟩
        have hsz : d.size + p.size ≤ 9223372036854775807 := by omega
        simp -implicitDefEqProofs [L53, e1, e2, hk0, hk1, hk2, hsz, -packH, pk]
      · refine ⟨a2, s2, d, p, n, by omega, by omega, by omega, by omega, ?_⟩
        simp -implicitDefEqProofs [L53, e1, e2, hk0, hk1, hk2, -packH, pk]
end Go.Proofs.YtbbnecjaojobfaaDoor.Ev.Dr
