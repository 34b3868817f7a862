/- Plans: the reference's plan of jobs in an order. -/
import Derived.Test.YtlmjoimjdpfamaaGreatEvRelK
set_option linter.unusedVariables false
set_option linter.unusedSimpArgs false
namespace Go.Proofs.YtlmjoimjdpfamaaGreat.Ev
set_option maxHeartbeats 1600000 in
theorem place_go00 (js : List J) (k : Nat) (hk : k < js.length) (f b b' : Int) (n m : Nat) (hm : m ≤ 1000) (hn : n ≤ m) (L : List AV) (e0 : L.length = m) (hT : List.take n L = []) (hD : List.drop n L = []) (IM : List AV) (hI : [] ++ hp ((k : Int), f, b') :: [] = IM) (hw : IntKind.i64.wrap (b' + js[k].2.2.1) = b' + js[k].2.2.1) (h5 : packX 0 [0, 1, 5] (loopW (bd E0 (ev E0) loopW 0 [0, 1, 5, 8] L65b1) ⟨[(0, .lst 4 (js.map jb)), (1, .lst 3 L), (5, .ptr 0 0 0), (8, bl true)], [bx ((k : Int), f, b)]⟩) = some (.ext 0, ⟨[(0, .lst 4 (js.map jb)), (1, .lst 3 L), (5, .ptr 0 0 0)], [bx ((k : Int), f, b')]⟩)) (hp1 : packX 0 [0, 1, 5, 10] (loopW (bd E0 (ev E0) loopW 0 [0, 1, 5, 10] L65b2) ⟨[(0, .lst 4 (js.map jb)), (1, .lst 3 L), (5, .ptr 0 0 0), (10, i64 0)], [bx ((k : Int), f, b')]⟩) = some (.ext 4, ⟨[(0, .lst 4 (js.map jb)), (1, .lst 3 L), (5, .ptr 0 0 0), (10, i64 n)], [bx ((k : Int), f, b')]⟩)) :
    ev E0 65 [.lst 4 (js.map jb), .lst 3 L, hp ((k : Int), f, b)] [] = some (.tup [.sl 0 0 (m + 1), i64 (b' + js[k].2.2.1)], [some ⟨32, 3, 1, false, IM⟩]) := by
  have tk : n = ([] : List AV).length := by rw [← hT, List.length_take]; omega
  have dk : ([] : List AV).length = m - n := by rw [← hD, List.length_drop]; omega
  have dr : List.take (m - n) (List.drop n L) = [] := by rw [hD]; exact List.take_of_length_le (by omega)
  have e2 : (n : Int) ≤ (m : Int) := by omega
  have m1 : (m + 1) * 24 ≤ 140737488355328 := by omega
  have m2 : m + 1 ≤ 140737488355328 := by omega
  have n1 : n * 24 ≤ 140737488355328 := by omega
  have n2 : n ≤ 140737488355328 := by omega
  have n3 : (n + 1) * 24 ≤ 140737488355328 := by omega
  have n4 : n + 1 ≤ 140737488355328 := by omega
  rw [e65]
  unfold runF
  unfold bx hp jb at *
  obtain rfl : n = 0 := by simpa using tk
  obtain rfl : m = 0 := by simp at dk; omega
  obtain rfl := List.eq_nil_of_length_eq_zero e0
  subst hI
  simp (maxSteps := 1000000) -implicitDefEqProofs [L65, h5, hp1, hk, hw]
set_option maxHeartbeats 1600000 in
theorem place_go01 (js : List J) (k : Nat) (hk : k < js.length) (f b b' : Int) (n m : Nat) (hm : m ≤ 1000) (hn : n ≤ m) (L : List AV) (e0 : L.length = m) (d : AV) (D : List AV) (hT : List.take n L = []) (hD : List.drop n L = (d :: D)) (IM : List AV) (hI : [] ++ hp ((k : Int), f, b') :: (d :: D) = IM) (hw : IntKind.i64.wrap (b' + js[k].2.2.1) = b' + js[k].2.2.1) (h5 : packX 0 [0, 1, 5] (loopW (bd E0 (ev E0) loopW 0 [0, 1, 5, 8] L65b1) ⟨[(0, .lst 4 (js.map jb)), (1, .lst 3 L), (5, .ptr 0 0 0), (8, bl true)], [bx ((k : Int), f, b)]⟩) = some (.ext 0, ⟨[(0, .lst 4 (js.map jb)), (1, .lst 3 L), (5, .ptr 0 0 0)], [bx ((k : Int), f, b')]⟩)) (hp1 : packX 0 [0, 1, 5, 10] (loopW (bd E0 (ev E0) loopW 0 [0, 1, 5, 10] L65b2) ⟨[(0, .lst 4 (js.map jb)), (1, .lst 3 L), (5, .ptr 0 0 0), (10, i64 0)], [bx ((k : Int), f, b')]⟩) = some (.ext 4, ⟨[(0, .lst 4 (js.map jb)), (1, .lst 3 L), (5, .ptr 0 0 0), (10, i64 n)], [bx ((k : Int), f, b')]⟩)) :
    ev E0 65 [.lst 4 (js.map jb), .lst 3 L, hp ((k : Int), f, b)] [] = some (.tup [.sl 0 0 (m + 1), i64 (b' + js[k].2.2.1)], [some ⟨32, 3, 1, false, IM⟩]) := by
  have tk : n = ([] : List AV).length := by rw [← hT, List.length_take]; omega
  have dk : ((d :: D) : List AV).length = m - n := by rw [← hD, List.length_drop]; omega
  have dr : List.take (m - n) (List.drop n L) = (d :: D) := by rw [hD]; exact List.take_of_length_le (by omega)
  have e2 : (n : Int) ≤ (m : Int) := by omega
  have m1 : (m + 1) * 24 ≤ 140737488355328 := by omega
  have m2 : m + 1 ≤ 140737488355328 := by omega
  have n1 : n * 24 ≤ 140737488355328 := by omega
  have n2 : n ≤ 140737488355328 := by omega
  have n3 : (n + 1) * 24 ≤ 140737488355328 := by omega
  have n4 : n + 1 ≤ 140737488355328 := by omega
  rw [e65]
  unfold runF
  unfold bx hp jb at *
  obtain rfl : n = 0 := by simpa using tk
  rw [List.drop_zero] at hD
  subst hD
  have dl : D.length + 1 = m := by simpa using e0
  have dm : List.take D.length D = D := List.take_of_length_le (Nat.le_refl _)
  have l3 : 0 + 1 + (D.length + 1) = m + 1 := by omega
  have l4 : 1 + (D.length + 1) = m + 1 := by omega
  have dl2 : (0 : Int) ≤ (D.length : Int) + 1 := by omega
  have m3 : m ≤ 140737488355327 := by omega
  have l5 : (1 + (D.length + 1)) * 24 ≤ 140737488355328 := by omega
  have l6 : 1 + (D.length + 1) ≤ 140737488355328 := by omega
  subst hI
  simp (maxSteps := 1000000) -implicitDefEqProofs [L65, h5, hp1, hk, hw, l3, l4, l5, l6, dm, dl2, m1, m3]
set_option maxHeartbeats 1600000 in
theorem place_go10 (js : List J) (k : Nat) (hk : k < js.length) (f b b' : Int) (n m : Nat) (hm : m ≤ 1000) (hn : n ≤ m) (L : List AV) (e0 : L.length = m) (t : AV) (T : List AV) (hT : List.take n L = (t :: T)) (hD : List.drop n L = []) (IM : List AV) (hI : (t :: T) ++ hp ((k : Int), f, b') :: [] = IM) (hw : IntKind.i64.wrap (b' + js[k].2.2.1) = b' + js[k].2.2.1) (h5 : packX 0 [0, 1, 5] (loopW (bd E0 (ev E0) loopW 0 [0, 1, 5, 8] L65b1) ⟨[(0, .lst 4 (js.map jb)), (1, .lst 3 L), (5, .ptr 0 0 0), (8, bl true)], [bx ((k : Int), f, b)]⟩) = some (.ext 0, ⟨[(0, .lst 4 (js.map jb)), (1, .lst 3 L), (5, .ptr 0 0 0)], [bx ((k : Int), f, b')]⟩)) (hp1 : packX 0 [0, 1, 5, 10] (loopW (bd E0 (ev E0) loopW 0 [0, 1, 5, 10] L65b2) ⟨[(0, .lst 4 (js.map jb)), (1, .lst 3 L), (5, .ptr 0 0 0), (10, i64 0)], [bx ((k : Int), f, b')]⟩) = some (.ext 4, ⟨[(0, .lst 4 (js.map jb)), (1, .lst 3 L), (5, .ptr 0 0 0), (10, i64 n)], [bx ((k : Int), f, b')]⟩)) :
    ev E0 65 [.lst 4 (js.map jb), .lst 3 L, hp ((k : Int), f, b)] [] = some (.tup [.sl 0 0 (m + 1), i64 (b' + js[k].2.2.1)], [some ⟨32, 3, 1, false, IM⟩]) := by
  have tk : n = ((t :: T) : List AV).length := by rw [← hT, List.length_take]; omega
  have dk : ([] : List AV).length = m - n := by rw [← hD, List.length_drop]; omega
  have dr : List.take (m - n) (List.drop n L) = [] := by rw [hD]; exact List.take_of_length_le (by omega)
  have e2 : (n : Int) ≤ (m : Int) := by omega
  have m1 : (m + 1) * 24 ≤ 140737488355328 := by omega
  have m2 : m + 1 ≤ 140737488355328 := by omega
  have n1 : n * 24 ≤ 140737488355328 := by omega
  have n2 : n ≤ 140737488355328 := by omega
  have n3 : (n + 1) * 24 ≤ 140737488355328 := by omega
  have n4 : n + 1 ≤ 140737488355328 := by omega
  rw [e65]
  unfold runF
  unfold bx hp jb at *
  have hnm : n = m := by simp at dk; omega
  subst hnm
  have tl : T.length + 1 = n := by simpa using tk.symm
  have tm : List.take T.length T = T := List.take_of_length_le (Nat.le_refl _)
  have tk2 : List.take n (t :: T) = t :: T := List.take_of_length_le (by simp; omega)
  subst hI
  simp (maxSteps := 1000000) -implicitDefEqProofs [L65, h5, hp1, hk, hw, hT, hD, e0, dr, tm, tl, tk2, n1, n2, n3, n4]
set_option maxHeartbeats 1600000 in
theorem place_go11 (js : List J) (k : Nat) (hk : k < js.length) (f b b' : Int) (n m : Nat) (hm : m ≤ 1000) (hn : n ≤ m) (L : List AV) (e0 : L.length = m) (t : AV) (T : List AV) (d : AV) (D : List AV) (hT : List.take n L = (t :: T)) (hD : List.drop n L = (d :: D)) (IM : List AV) (hI : (t :: T) ++ hp ((k : Int), f, b') :: (d :: D) = IM) (hw : IntKind.i64.wrap (b' + js[k].2.2.1) = b' + js[k].2.2.1) (h5 : packX 0 [0, 1, 5] (loopW (bd E0 (ev E0) loopW 0 [0, 1, 5, 8] L65b1) ⟨[(0, .lst 4 (js.map jb)), (1, .lst 3 L), (5, .ptr 0 0 0), (8, bl true)], [bx ((k : Int), f, b)]⟩) = some (.ext 0, ⟨[(0, .lst 4 (js.map jb)), (1, .lst 3 L), (5, .ptr 0 0 0)], [bx ((k : Int), f, b')]⟩)) (hp1 : packX 0 [0, 1, 5, 10] (loopW (bd E0 (ev E0) loopW 0 [0, 1, 5, 10] L65b2) ⟨[(0, .lst 4 (js.map jb)), (1, .lst 3 L), (5, .ptr 0 0 0), (10, i64 0)], [bx ((k : Int), f, b')]⟩) = some (.ext 4, ⟨[(0, .lst 4 (js.map jb)), (1, .lst 3 L), (5, .ptr 0 0 0), (10, i64 n)], [bx ((k : Int), f, b')]⟩)) :
    ev E0 65 [.lst 4 (js.map jb), .lst 3 L, hp ((k : Int), f, b)] [] = some (.tup [.sl 0 0 (m + 1), i64 (b' + js[k].2.2.1)], [some ⟨32, 3, 1, false, IM⟩]) := by
  have tk : n = ((t :: T) : List AV).length := by rw [← hT, List.length_take]; omega
  have dk : ((d :: D) : List AV).length = m - n := by rw [← hD, List.length_drop]; omega
  have dr : List.take (m - n) (List.drop n L) = (d :: D) := by rw [hD]; exact List.take_of_length_le (by omega)
  have e2 : (n : Int) ≤ (m : Int) := by omega
  have m1 : (m + 1) * 24 ≤ 140737488355328 := by omega
  have m2 : m + 1 ≤ 140737488355328 := by omega
  have n1 : n * 24 ≤ 140737488355328 := by omega
  have n2 : n ≤ 140737488355328 := by omega
  have n3 : (n + 1) * 24 ≤ 140737488355328 := by omega
  have n4 : n + 1 ≤ 140737488355328 := by omega
  rw [e65]
  unfold runF
  unfold bx hp jb at *
  have tl : T.length + 1 = n := by simpa using tk.symm
  have dl : D.length + 1 = m - n := by simpa using dk
  have l7 : n + 1 + (D.length + 1) = m + 1 := by omega
  have dl2 : (0 : Int) ≤ (D.length : Int) + 1 := by omega
  have tm : List.take T.length T = T := List.take_of_length_le (Nat.le_refl _)
  have tk2 : List.take n (t :: T) = t :: T := List.take_of_length_le (by simp; omega)
  have tm2 : ∀ y : AV, List.take n (T ++ [y]) = T ++ [y] := fun y => List.take_of_length_le (by simp; omega)
  have dt2 : List.take (m - n) (d :: D) = d :: D := List.take_of_length_le (by simp; omega)
  have mn1 : ¬ m - n = 0 := by omega
  have mn2 : min (m - n) (D.length + 1) = m - n := by omega
  have mn3 : n + 1 + (m - n) = m + 1 := by omega
  have m4 : m ≤ 140737488355327 := by omega
  subst hI
  simp (maxSteps := 1000000) -implicitDefEqProofs [L65, h5, hp1, hk, hw, hT, hD, e0, e2, dr, l7, tm, tm2, tl, dl2, tk2, dt2, mn1, mn2, mn3, m4, n1, n2, n3, n4, m1, m2]
def PB (js : List J) (pl : List Hh) : Prop := ∀ x ∈ pl, HB js x ∧ endH js x ≤ 1000 + 60 * pl.length
theorem place_s (js : List J) (hj : ∀ j ∈ js, JB j) (pl : List Hh) (hP : PB js pl) (hlen : pl.length ≤ 1000) (k : Nat) (hk : k < js.length) (f : Int) (f0 : -10 ≤ f) (f1 : f ≤ 20) (b : Int) (hb0 : 0 ≤ b) (hb1 : b ≤ 1000 + 60 * pl.length) :
    b ≤ lfree js pl k f b ∧ lfree js pl k f b ≤ 1000 + 60 * pl.length ∧ (∀ c, b ≤ c → c < lfree js pl k f b → blk js pl k f c = true) ∧ blk js pl k f (lfree js pl k f b) = false ∧
    ev E0 65 [.lst 4 (js.map jb), .lst 3 (pl.map hp), hp ((k : Int), f, b)] [] = some (.tup [.sl 0 0 (insH ((k : Int), f, lfree js pl k f b) pl).length, i64 (lfree js pl k f b + js[k].2.2.1)], [rh (insH ((k : Int), f, lfree js pl k f b) pl)]) := by
  obtain ⟨b', h1, h2, h3, h4, h5⟩ := again_loop js hj pl (fun x hx => (hP x hx).1) (1000 + 60 * pl.length) (by omega) (fun x hx => (hP x hx).2) (by omega) k hk f f0 f1 100000 b (by omega) hb0 (by omega)
  have hb' : b' ≤ 1000 + 60 * pl.length := by rcases h2 with h | h <;> omega
  have hlf : lfree js pl k f b = b' := lf_eq 100000 b b' h1 (by omega) h3 h4
  rw [hlf]
  refine ⟨h1, hb', h3, h4, ?_⟩
  have hJ := hj _ (List.getElem_mem hk)
  have s0 := hJ.s0
  have s1 := hJ.s1
  have hp1 := pos_loop js pl (by omega) ((k : Int), f, b') pl 0 rfl
  have hpos := posH_le ((k : Int), f, b') pl
  rw [Nat.zero_add, c0] at hp1
  have hin := insH_eq ((k : Int), f, b') pl
  have hw : IntKind.i64.wrap (b' + js[k].2.2.1) = b' + js[k].2.2.1 := wr64 (by omega) (by omega)
  rw [insH_len]
  generalize posH ((k : Int), f, b') pl = n at *
  have hin2 : (pl.map hp).take n ++ hp ((k : Int), f, b') :: (pl.map hp).drop n = (insH ((k : Int), f, b') pl).map hp := by
    rw [← hin]
    simp [List.map_take, List.map_drop]
  unfold rh
  have e0 : (pl.map hp).length = pl.length := by simp
  generalize pl.map hp = L at *
  cases hT : List.take n L with
  | nil =>
    cases hD : List.drop n L with
    | nil => rw [hT, hD] at hin2; exact place_go00 js k hk f b b' n pl.length hlen hpos L e0 hT hD _ hin2 hw h5 hp1
    | cons d D => rw [hT, hD] at hin2; exact place_go01 js k hk f b b' n pl.length hlen hpos L e0 d D hT hD _ hin2 hw h5 hp1
  | cons t T =>
    cases hD : List.drop n L with
    | nil => rw [hT, hD] at hin2; exact place_go10 js k hk f b b' n pl.length hlen hpos L e0 t T hT hD _ hin2 hw h5 hp1
    | cons d D => rw [hT, hD] at hin2; exact place_go11 js k hk f b b' n pl.length hlen hpos L e0 t T d D hT hD _ hin2 hw h5 hp1
end Go.Proofs.YtlmjoimjdpfamaaGreat.Ev
