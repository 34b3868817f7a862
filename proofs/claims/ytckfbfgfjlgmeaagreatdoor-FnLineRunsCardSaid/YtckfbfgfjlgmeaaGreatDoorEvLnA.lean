/- Lines of beats: what the law says of them, in plain words. -/
import Derived.Test.YtckfbfgfjlgmeaaGreatDoorEvLn9
import Derived.Test.YtckfbfgfjlgmeaaGreatDoorEvLn7
set_option linter.unusedVariables false
set_option linter.unusedSimpArgs false
namespace Go.Proofs.YtckfbfgfjlgmeaaGreatDoor.Ev
def toP (r : R) : P := ((r.1 : Int), (r.2 : Int))
def pr (l : ByteArray) : List P := (runs (B l)).map toP
theorem rn_pn (l : List R) : l.map rn = (l.map toP).map pn := by rw [List.map_map]; rfl
def sumP : List P → Int
  | [] => 0
  | p :: t => p.1 * p.2 + sumP t
theorem lineL_cons (p : P) (t : List P) : lineL (p :: t) = rt p ++ lineL t := by unfold lineL; rw [List.map_cons, List.flatten_cons]
theorem runsF_facts : ∀ (t : List UInt8) (v n : Nat), (v = 0 ∨ v = 1) → 1 ≤ n → t.all o01 = true →
    lineL ((runsF v n t).map toP) = List.replicate n (ch v) ++ t ∧ sumP ((runsF v n t).map toP) = (v : Int) * n + (t.count 49 : Nat) ∧
    ∀ (w : Option Int) (m : Nat), w ≠ some (v : Int) → m + n + t.length ≤ 200 → okRs w m ((runsF v n t).map toP) = true := by
  intro t
  induction t with
  | nil =>
    intro v n hv hn _
    refine ⟨?_, ?_, fun w m hw hm => ?_⟩
    · rw [runsF, List.map_singleton, lineL_cons]; simp [rt, toP, lineL]
    · rw [runsF, List.map_singleton]; simp [sumP, toP]
    · rw [runsF, List.map_singleton, okRs, okRs]
      rw [List.length_nil] at hm
      have a1 : (0 : Int) ≤ (toP (v, n)).1 := by show (0 : Int) ≤ (v : Int); omega
      have a2 : (toP (v, n)).1 ≤ 1 := by show (v : Int) ≤ 1; omega
      have a3 : (1 : Int) ≤ (toP (v, n)).2 := by show (1 : Int) ≤ (n : Int); omega
      have a4 : (toP (v, n)).2 ≤ 200 - (m : Int) := by show (n : Int) ≤ 200 - (m : Int); omega
      have a5 : w ≠ some (toP (v, n)).1 := hw
      simp [a1, a2, a3, a4, a5]
  | cons c t ih =>
    intro v n hv hn hall
    rw [List.all_cons, Bool.and_eq_true] at hall
    have hc := o01_or hall.1
    by_cases he : c.toNat - 48 = v
    · obtain ⟨i1, i2, i3⟩ := ih v (n + 1) hv (by omega) hall.2
      rw [runsF, if_pos he]
      have hcv : ch (v : Int) = c := by
        rcases hc with rfl | rfl
        · have : v = 0 := by rw [← he]; rfl
          subst this; rfl
        · have : v = 1 := by rw [← he]; rfl
          subst this; rfl
      refine ⟨?_, ?_, fun w m hw hm => i3 w m hw (by rw [List.length_cons] at hm; omega)⟩
      · rw [i1, hcv, List.replicate_succ', List.append_assoc]; rfl
      · rw [i2, List.count_cons]
        rcases hc with rfl | rfl
        · have : v = 0 := by rw [← he]; rfl
          subst this; simp
        · have : v = 1 := by rw [← he]; rfl
          subst this; simp; omega
    · have hv2 : c.toNat - 48 = 0 ∨ c.toNat - 48 = 1 := by
        rcases hc with rfl | rfl
        · left; rfl
        · right; rfl
      obtain ⟨i1, i2, i3⟩ := ih (c.toNat - 48) 1 hv2 (by omega) hall.2
      rw [runsF, if_neg he, List.map_cons]
      have hcv : ch ((c.toNat - 48 : Nat) : Int) = c := by
        rcases hc with rfl | rfl <;> rfl
      refine ⟨?_, ?_, fun w m hw hm => ?_⟩
      · rw [lineL_cons, i1, hcv]
        have : rt (toP (v, n)) = List.replicate n (ch v) := by simp [rt, toP]
        rw [this]; rfl
      · rw [sumP, i2, List.count_cons]
        show (v : Int) * n + _ = _
        rcases hc with rfl | rfl <;> simp <;> omega
      · rw [List.length_cons] at hm
        rw [okRs]
        have a1 : (0 : Int) ≤ (toP (v, n)).1 := by show (0 : Int) ≤ (v : Int); omega
        have a2 : (toP (v, n)).1 ≤ 1 := by show (v : Int) ≤ 1; omega
        have a3 : (1 : Int) ≤ (toP (v, n)).2 := by show (1 : Int) ≤ (n : Int); omega
        have a4 : (toP (v, n)).2 ≤ 200 - (m : Int) := by show (n : Int) ≤ 200 - (m : Int); omega
        have a5 : w ≠ some (toP (v, n)).1 := hw
        have a6 := i3 (some (v : Int)) (m + n) (fun e => he (by have := Option.some.inj e; omega)) (by omega)
        have a7 : okRs (some (toP (v, n)).1) ((m : Int) + (toP (v, n)).2) ((runsF (c.toNat - 48) 1 t).map toP) = true := by
          rw [← a6]; rfl
        simp [a1, a2, a3, a4, a5, a7]
theorem okLine_iff {l : ByteArray} (h : okLine l = true) : l.size ≤ 200 ∧ (B l).all o01 = true := by
  unfold okLine at h
  rw [Bool.and_eq_true, decide_eq_true_eq] at h
  exact ⟨by omega, h.2⟩
/-- A line's own runs give it back. -/
theorem runs_back (l : ByteArray) (h : okLine l = true) : okRs none 0 (pr l) = true ∧ mkB (lineL (pr l)) = l ∧ sumP (pr l) = (cnt l : Int) := by
  obtain ⟨h1, h2⟩ := okLine_iff h
  rw [cnt_count]
  have hlen := B_len l
  unfold pr
  have hb : mkB (B l) = l := mkB_B l
  generalize B l = L at *
  cases L with
  | nil => refine ⟨rfl, ?_, rfl⟩; rw [← hb]; rfl
  | cons c t =>
    rw [List.all_cons, Bool.and_eq_true] at h2
    have hc := o01_or h2.1
    rw [List.length_cons] at hlen
    have hv2 : c.toNat - 48 = 0 ∨ c.toNat - 48 = 1 := by
      rcases hc with rfl | rfl
      · left; rfl
      · right; rfl
    obtain ⟨i1, i2, i3⟩ := runsF_facts t (c.toNat - 48) 1 hv2 (by omega) h2.2
    have hcv : ch ((c.toNat - 48 : Nat) : Int) = c := by
      rcases hc with rfl | rfl <;> rfl
    rw [runs]
    refine ⟨i3 none 0 (by simp) (by omega), ?_, ?_⟩
    · rw [i1, hcv, ← hb]; rfl
    · rw [i2, List.count_cons]
      rcases hc with rfl | rfl <;> simp <;> omega
theorem ch_or (v : Int) : ch v = 48 ∨ ch v = 49 := by
  unfold ch
  split
  · exact .inl rfl
  · exact .inr rfl
theorem o01_ch (v : Int) : o01 (ch v) = true := by
  rcases ch_or v with h | h <;> rw [h] <;> rfl
theorem lineL_all : ∀ l : List P, (lineL l).all o01 = true
  | [] => rfl
  | p :: t => by
    rw [lineL_cons, List.all_append, lineL_all t, Bool.and_true]
    unfold rt
    rw [List.all_eq_true]
    intro c hc
    rw [(List.mem_replicate.1 hc).2]
    exact o01_ch _
theorem ch_nat {v : Nat} (hv : v = 0 ∨ v = 1) : (ch (v : Int)).toNat - 48 = v := by
  rcases hv with rfl | rfl <;> rfl
theorem runs_of : ∀ (t : List P) (v : Nat) (m : Int), (v = 0 ∨ v = 1) → okRs (some (v : Int)) m t = true → ∀ (k n : Nat),
    (runsF v n (List.replicate k (ch v) ++ lineL t)).map toP = ((v : Int), ((n + k : Nat) : Int)) :: t := by
  intro t
  induction t with
  | nil =>
    intro v m hv h k
    induction k with
    | zero => intro n; rw [show lineL [] = [] from rfl, List.append_nil, show List.replicate 0 (ch (v : Int)) = [] from rfl, runsF]; rfl
    | succ k ihk =>
      intro n
      rw [List.replicate_succ, List.cons_append, runsF, if_pos (ch_nat hv), ihk]
      congr 2; omega
  | cons p t ih =>
    intro v m hv h k
    induction k with
    | zero =>
      intro n
      rw [okRs] at h
      simp only [Bool.and_eq_true, decide_eq_true_eq] at h
      obtain ⟨⟨a1, a2⟩, ⟨b1, b2⟩, c1, c2⟩ := h
      obtain ⟨p1, p2⟩ := p
      obtain ⟨u, rfl⟩ : ∃ u : Nat, p1 = u := ⟨p1.toNat, by simp only [] at a1; omega⟩
      obtain ⟨q, rfl⟩ : ∃ q : Nat, p2 = ((q + 1 : Nat) : Int) := ⟨p2.toNat - 1, by simp only [] at b1; omega⟩
      have hu : u = 0 ∨ u = 1 := by simp only [] at a2; omega
      have hne : ¬ u = v := fun e => c1 (by simp only []; rw [e])
      have := ih u _ hu c2 q 1
      rw [lineL_cons, show List.replicate 0 (ch (v : Int)) = [] from rfl, List.nil_append]
      rw [show rt ((u : Int), ((q + 1 : Nat) : Int)) = ch (u : Int) :: List.replicate q (ch (u : Int)) from rfl, List.cons_append, runsF, if_neg (by rw [ch_nat hu]; exact hne), ch_nat hu, List.map_cons, this]
      show _ = _
      congr 2
      congr 2
      omega
    | succ k ihk =>
      intro n
      rw [List.replicate_succ, List.cons_append, runsF, if_pos (ch_nat hv), ihk]
      congr 2; omega
theorem line_back (l : List P) (h : okRs none 0 l = true) : okLine (mkB (lineL l)) = true ∧ pr (mkB (lineL l)) = l := by
  obtain ⟨_, h2⟩ := okRs_small h
  refine ⟨?_, ?_⟩
  · unfold okLine
    rw [mkB_size, decide_eq_true (by omega), B_mkB, lineL_all]; rfl
  · unfold pr
    rw [B_mkB]
    cases l with
    | nil => rfl
    | cons p t =>
      rw [okRs] at h
      simp only [Bool.and_eq_true, decide_eq_true_eq] at h
      obtain ⟨⟨a1, a2⟩, ⟨b1, b2⟩, c1, c2⟩ := h
      obtain ⟨p1, p2⟩ := p
      obtain ⟨u, rfl⟩ : ∃ u : Nat, p1 = u := ⟨p1.toNat, by simp only [] at a1; omega⟩
      obtain ⟨q, rfl⟩ : ∃ q : Nat, p2 = ((q + 1 : Nat) : Int) := ⟨p2.toNat - 1, by simp only [] at b1; omega⟩
      have hu : u = 0 ∨ u = 1 := by simp only [] at a2; omega
      have := runs_of t u _ hu c2 q 1
      rw [lineL_cons, show rt ((u : Int), ((q + 1 : Nat) : Int)) = ch (u : Int) :: List.replicate q (ch (u : Int)) from rfl, List.cons_append, runs, ch_nat hu, this]
      congr 2
      omega
-- ---------------------------------------------------------------- on at once
theorem mxA_ge : ∀ (t : List ByteArray) (m : Nat), m ≤ mxA m t ∧ ∀ l ∈ t, l.size ≤ mxA m t
  | [], m => ⟨Nat.le_refl _, by simp⟩
  | l :: t, m => by
    obtain ⟨h1, h2⟩ := mxA_ge t (if l.size < m then m else l.size)
    rw [mxA]
    refine ⟨by split at h1 <;> split <;> omega, fun x hx => ?_⟩
    rcases List.mem_cons.1 hx with rfl | hx
    · split at h1 <;> split <;> omega
    · exact h2 x hx
def sumN : List Nat → Nat
  | [] => 0
  | a :: t => a + sumN t
theorem sumN_app : ∀ a b : List Nat, sumN (a ++ b) = sumN a + sumN b
  | [], b => by simp [sumN]
  | x :: a, b => by rw [List.cons_append, sumN, sumN_app a b, sumN]; omega
theorem ocs_cons (l : ByteArray) (t : List ByteArray) : ∀ M, sumN (ocs (l :: t) M) = S (fun j => onB l j) M + sumN (ocs t M)
  | 0 => rfl
  | M + 1 => by
    rw [ocs_succ, ocs_succ, sumN_app, sumN_app, ocs_cons l t M, S]
    show _ + (oc (l :: t) M + 0) = _ + (_ + (oc t M + 0))
    rw [oc]
    omega
theorem S_cnt (l : ByteArray) (M : Nat) (h : l.size ≤ M) : S (fun j => onB l j) M = cnt l := by
  obtain ⟨k, rfl⟩ : ∃ k, M = l.size + k := ⟨M - l.size, by omega⟩
  unfold cnt
  exact S_ext _ _ _ (fun j hj => on_big l j (by omega))
theorem ocs_nil : ∀ M, sumN (ocs [] M) = 0
  | 0 => rfl
  | M + 1 => by rw [ocs_succ, sumN_app, ocs_nil M]; rfl
theorem ocs_sum (M : Nat) : ∀ t : List ByteArray, (∀ l ∈ t, l.size ≤ M) → sumN (ocs t M) = sumN (t.map cnt)
  | [], _ => ocs_nil M
  | l :: t, h => by
    rw [ocs_cons, S_cnt l M (h l List.mem_cons_self), ocs_sum M t (fun x hx => h x (List.mem_cons_of_mem _ hx))]; rfl
theorem once_sum (Ls : List ByteArray) : sumN (ocs Ls (mxA 0 Ls)) = sumN (Ls.map cnt) := ocs_sum _ Ls (mxA_ge Ls 0).2
theorem sumN_le (b : Nat) : ∀ t : List Nat, (∀ x ∈ t, x ≤ b) → sumN t ≤ t.length * b
  | [], _ => Nat.zero_le _
  | x :: t, h => by
    have := sumN_le b t (fun y hy => h y (List.mem_cons_of_mem _ hy))
    have := h x List.mem_cons_self
    rw [sumN, List.length_cons, Nat.succ_mul]; omega
-- ---------------------------------------------------------------- joined
theorem S_or (f g : Nat → Bool) : ∀ m, S f m + S g m = S (fun j => f j || g j) m + S (fun j => g j && f j) m
  | 0 => rfl
  | m + 1 => by
    have := S_or f g m
    rw [S, S, S, S]
    cases f m <;> cases g m <;> simp <;> omega
theorem jo_size (a b : ByteArray) (ha : okLine a = true) (hb : okLine b = true) : (joV a b).size = mx a b ∧ joV a b = mkB (jL a b (mx a b)) := by
  have : joV a b = mkB (jL a b (mx a b)) := by unfold joV; rw [ha, hb]; rfl
  exact ⟨by rw [this, mkB_size, jL_len], this⟩
theorem mx_le (a b : ByteArray) : a.size ≤ mx a b ∧ b.size ≤ mx a b := by unfold mx; split <;> omega
theorem jo_ok (a b : ByteArray) (ha : okLine a = true) (hb : okLine b = true) : okLine (joV a b) = true := by
  obtain ⟨h1, h2⟩ := jo_size a b ha hb
  obtain ⟨a1, _⟩ := okLine_iff ha
  obtain ⟨b1, _⟩ := okLine_iff hb
  have hm : mx a b ≤ 200 := by unfold mx; split <;> omega
  unfold okLine
  rw [h1, decide_eq_true (by omega), Bool.true_and, h2, B_mkB, List.all_eq_true]
  intro c hc
  unfold jL at hc
  obtain ⟨j, _, rfl⟩ := List.mem_map.1 hc
  unfold jb
  split <;> rfl
theorem jo_on (a b : ByteArray) (ha : okLine a = true) (hb : okLine b = true) (j : Nat) (hj : j < mx a b) : onB (joV a b) j = (onB a j || onB b j) := by
  obtain ⟨h1, h2⟩ := jo_size a b ha hb
  rw [onB_nat _ j (by rw [h1]; exact hj), h2, B_mkB]
  have : (jL a b (mx a b)).getD j 0 = jb a b j := by
    unfold jL
    rw [List.getD_eq_getElem?_getD, List.getElem?_map, List.getElem?_range hj]; rfl
  rw [this]
  unfold jb
  cases (onB a j || onB b j) <;> rfl
theorem jo_cnt (a b : ByteArray) (ha : okLine a = true) (hb : okLine b = true) : cnt a + cnt b = cnt (joV a b) + cl a b 0 := by
  obtain ⟨m1, m2⟩ := mx_le a b
  obtain ⟨h1, _⟩ := jo_size a b ha hb
  rw [← S_cnt a (mx a b) m1, ← S_cnt b (mx a b) m2, S_or]
  congr 1
  · unfold cnt
    rw [h1]
    exact S_congr _ (fun j hj => (jo_on a b ha hb j hj).symm)
  · unfold cl
    obtain ⟨k, hk⟩ : ∃ k, mx a b = b.size + k := ⟨mx a b - b.size, by omega⟩
    rw [hk, S_ext (fun j => onB b j && onB a j) b.size k (fun j hj => by rw [on_big b j (by omega), Bool.false_and])]
    exact S_congr _ (fun j _ => by unfold fS; rw [show ((j : Int) + ((0 : Nat) : Int)) = (j : Int) by omega])
-- ---------------------------------------------------------------- delayed
theorem dl_size (l : ByteArray) (n : Nat) : (dlV l n).size = n + l.size := by unfold dlV; rw [ByteArray.size_append, mkB_size, List.length_replicate]
theorem dl_B (l : ByteArray) (n : Nat) : B (dlV l n) = List.replicate n 48 ++ B l := by unfold dlV; rw [B_append, B_mkB]
theorem dl_ok (l : ByteArray) (n : Nat) (h : okLine l = true) (hn : n + l.size ≤ 200) : okLine (dlV l n) = true := by
  obtain ⟨_, h2⟩ := okLine_iff h
  unfold okLine
  rw [dl_size, decide_eq_true (by omega), dl_B, List.all_append, h2, Bool.and_true, Bool.true_and, List.all_eq_true]
  intro c hc
  rw [(List.mem_replicate.1 hc).2]; rfl
theorem dl_cl (a b : ByteArray) (n : Nat) : cl a (dlV b n) 0 = cl a b n := by
  unfold cl
  rw [dl_size, S_add, S_zero n (fun j hj => ?_), Nat.zero_add]
  · refine S_congr _ (fun j hj => ?_)
    unfold fS
    have e1 : onB (dlV b n) ((n + j : Nat) : Int) = onB b j := by
      rw [onB_nat _ _ (by rw [dl_size]; omega), onB_nat _ _ hj, dl_B]
      have : (List.replicate n (48 : UInt8) ++ B b).getD (n + j) 0 = (B b).getD j 0 := by
        rw [List.getD_eq_getElem?_getD, List.getD_eq_getElem?_getD, List.getElem?_append_right (by rw [List.length_replicate]; omega), List.length_replicate, Nat.add_sub_cancel_left]
      rw [this]
    rw [e1, show (((n + j : Nat) : Int) + ((0 : Nat) : Int)) = (j : Int) + n by omega]
  · unfold fS
    have e1 : onB (dlV b n) (j : Int) = false := by
      rw [onB_nat _ _ (by rw [dl_size]; omega), dl_B]
      have : (List.replicate n (48 : UInt8) ++ B b).getD j 0 = 48 := by
        rw [List.getD_eq_getElem?_getD, List.getElem?_append_left (by rw [List.length_replicate]; omega), List.getElem?_replicate, if_pos hj]; rfl
      rw [this]; rfl
    rw [e1]; rfl
end Go.Proofs.YtckfbfgfjlgmeaaGreatDoor.Ev
