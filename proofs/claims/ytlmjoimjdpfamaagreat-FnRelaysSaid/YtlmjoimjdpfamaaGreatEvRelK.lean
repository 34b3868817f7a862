/- Plans: one hop more, in the reference's words. -/
import Derived.Test.YtlmjoimjdpfamaaGreatEvRelG
set_option linter.unusedVariables false
set_option linter.unusedSimpArgs false
namespace Go.Proofs.YtlmjoimjdpfamaaGreat.Ev
/-- Is a hop of a job from a station with this beginning in the way of another one? -/
def blk (js : List J) (pl : List Hh) (a f b : Int) : Bool := pl.any fun x => clash js x (a, f, b)
def endH (js : List J) (x : Hh) : Int := x.2.2 + (jat js x.1).2.2.1
def lf (js : List J) (pl : List Hh) (a f : Int) : Nat → Int → Int
  | 0, b => b
  | n + 1, b => if blk js pl a f b = true then lf js pl a f n (b + 1) else b
/-- The least beginning that is free. -/
def lfree (js : List J) (pl : List Hh) (a f b : Int) : Int := lf js pl a f 100000 b
theorem lf_eq {js : List J} {pl : List Hh} {a f : Int} : ∀ (n : Nat) (b b' : Int), b ≤ b' → b' < b + n → (∀ c, b ≤ c → c < b' → blk js pl a f c = true) → blk js pl a f b' = false → lf js pl a f n b = b'
  | 0, b, b', h1, h2, _, _ => by omega
  | n + 1, b, b', h1, h2, h3, h4 => by
    unfold lf
    by_cases h : b = b'
    · subst h
      rw [h4]
      simp
    · rw [if_pos (h3 b (by omega) (by omega))]
      exact lf_eq n (b + 1) b' (by omega) (by omega) (fun c c1 c2 => h3 c (by omega) c2) h4
theorem clash_mono {js : List J} {x : Hh} {a f b c : Int} (h : clash js x (a, f, b) = true) (h1 : b ≤ c) (h2 : c < endH js x) : clash js x (a, f, c) = true := by
  unfold clash endH at *
  have hn : ∀ t : Int, nxt js (a, f, t) = nxt js (a, f, 0) := fun t => rfl
  rw [hn c]
  rw [hn b] at h
  rw [Bool.and_eq_true] at h ⊢
  refine ⟨?_, h.2⟩
  have h3 := h.1
  dsimp only at h3 ⊢
  rw [Bool.not_eq_true', Bool.or_eq_false_iff, decide_eq_false_iff_not, decide_eq_false_iff_not] at h3 ⊢
  exact ⟨by omega, by omega⟩
theorem clash_end {js : List J} {x : Hh} {a f b : Int} (h : clash js x (a, f, b) = true) : b < endH js x := by
  unfold clash endH at *
  rw [Bool.and_eq_true] at h
  have h3 := h.1
  dsimp only at h3
  rw [Bool.not_eq_true', Bool.or_eq_false_iff, decide_eq_false_iff_not, decide_eq_false_iff_not] at h3
  omega
def insH (h : Hh) : List Hh → List Hh
  | [] => [h]
  | x :: t => if bef x h = true then x :: insH h t else h :: x :: t
def posH (h : Hh) : List Hh → Nat
  | [] => 0
  | x :: t => if bef x h = true then posH h t + 1 else 0
theorem posH_le (h : Hh) : ∀ l, posH h l ≤ l.length
  | [] => Nat.le_refl _
  | x :: t => by
    unfold posH
    have := posH_le h t
    split <;> simp <;> omega
theorem insH_eq (h : Hh) : ∀ l : List Hh, l.take (posH h l) ++ h :: l.drop (posH h l) = insH h l
  | [] => rfl
  | x :: t => by
    unfold posH insH
    by_cases hb : bef x h = true
    · rw [if_pos hb, if_pos hb, List.take_succ_cons, List.drop_succ_cons, List.cons_append, insH_eq h t]
    · rw [if_neg hb, if_neg hb]; rfl
theorem insH_perm (h : Hh) : ∀ l : List Hh, List.Perm (insH h l) (h :: l)
  | [] => List.Perm.refl _
  | x :: t => by
    unfold insH
    split
    · exact (List.Perm.cons x (insH_perm h t)).trans (List.Perm.swap h x t)
    · exact List.Perm.refl _
theorem insH_len (h : Hh) (l : List Hh) : (insH h l).length = l.length + 1 := (insH_perm h l).length_eq
def rh (l : List Hh) : Option Blk := some ⟨32, 3, 1, false, l.map hp⟩
def bx (h : Hh) : Option Blk := some ⟨32, 3, 0, false, [hp h]⟩
-- ---------------------------------------------------------------- one pass over the plan
theorem pass_loop (js : List J) (hj : ∀ j ∈ js, JB j) (pl : List Hh) (hb : ∀ x ∈ pl, HB js x) (M : Int) (hM : M ≤ 90000) (hE : ∀ x ∈ pl, endH js x ≤ M) (hpl : pl.length ≤ 1099511627776) (k : Nat) (hk : k < js.length) (f : Int) (f0 : -10 ≤ f) (f1 : f ≤ 20) : ∀ (t : List Hh) (i : Nat) (b : Int) (fl : Bool), pl.drop i = t → 0 ≤ b → b ≤ 90000 →
    ∃ b' : Int, b ≤ b' ∧ (b' = b ∨ b' ≤ M) ∧ (∀ c, b ≤ c → c < b' → blk js pl k f c = true) ∧ (b' = b → (t.any fun x => clash js x ((k : Int), f, b)) = false) ∧
    packX 0 [0, 1, 5, 8] (loopW (bd E0 (ev E0) loopW 0 [0, 1, 5, 8, 9] L65b0) ⟨[(0, .lst 4 (js.map jb)), (1, .lst 3 (pl.map hp)), (5, .ptr 0 0 0), (8, bl fl), (9, i64 i)], [bx ((k : Int), f, b)]⟩) = some (.ext 2, ⟨[(0, .lst 4 (js.map jb)), (1, .lst 3 (pl.map hp)), (5, .ptr 0 0 0), (8, bl (fl || !decide (b' = b)))], [bx ((k : Int), f, b')]⟩) := by
  intro t
  induction t with
  | nil =>
    intro i b fl h _ _
    have hi := not_drop h
    refine ⟨b, Int.le_refl _, .inl rfl, fun c h1 h2 => by omega, fun _ => rfl, ?_⟩
    rw [loopW_eq, decide_eq_true (rfl : b = b)]
    generalize loopW (bd E0 (ev E0) loopW 0 [0, 1, 5, 8, 9] L65b0) = K
    unfold bx hp
    simp -implicitDefEqProofs [bd, L65b0, hi]
  | cons x t ih =>
    intro i b fl h hb0 hb1
    obtain ⟨hi, hx, hd, hmem⟩ := at_drop h
    have hB := hb _ hmem
    have hEx := hE _ hmem
    have hw : IntKind.i64.wrap ((i : Int) + 1) = (i : Int) + 1 := wr64 (by omega) (by omega)
    have hc := clash_s js hj x ((k : Int), f, b) hB ⟨by dsimp only; omega, by dsimp only; omega, f0, f1, hb0, by dsimp only; omega⟩
    cases hcl : clash js x ((k : Int), f, b) with
    | false =>
      rw [hcl] at hc
      obtain ⟨b', h1, h2, h3, h4, h5⟩ := ih (i + 1) b fl hd hb0 hb1
      refine ⟨b', h1, h2, h3, fun e => by rw [List.any_cons, hcl, h4 e]; rfl, ?_⟩
      rw [cs1] at h5
      rw [loopW_eq]
      generalize loopW (bd E0 (ev E0) loopW 0 [0, 1, 5, 8, 9] L65b0) = K at h5 ⊢
      generalize (fl || !decide (b' = b)) = fl' at *
      unfold bx hp at *
      simpa -implicitDefEqProofs [bd, L65b0, hi, hx, hw, hc] using h5
    | true =>
      rw [hcl] at hc
      have hlt := clash_end hcl
      obtain ⟨b', h1, h2, h3, h4, h5⟩ := ih (i + 1) (endH js x) true hd (by omega) (by omega)
      have hne : ¬ b' = b := by omega
      refine ⟨b', by omega, .inr (by rcases h2 with h2 | h2 <;> omega), fun c c1 c2 => ?_, fun e => absurd e hne, ?_⟩
      · by_cases hce : c < endH js x
        · unfold blk
          rw [List.any_eq_true]
          exact ⟨x, hmem, clash_mono hcl c1 hce⟩
        · exact h3 c (by omega) c2
      · rw [cs1, Bool.true_or] at h5
        rw [decide_eq_false hne, Bool.not_false, Bool.or_true]
        obtain ⟨a, g, e⟩ := x
        obtain ⟨m, rfl⟩ : ∃ m : Nat, a = m := ⟨a.toNat, by have := hB.1; dsimp only at this; omega⟩
        have hm : m < js.length := by have := hB.2.1; dsimp only at this; omega
        have hen : endH js ((m : Int), g, e) = e + js[m].2.2.1 := by unfold endH; rw [jat_get hm]
        rw [hen] at h5 hEx
        have hJ := hj _ (List.getElem_mem hm)
        have s0 := hJ.s0
        have e0 := hB.2.2.2.2.1
        dsimp only at e0
        have hwe : IntKind.i64.wrap (e + js[m].2.2.1) = e + js[m].2.2.1 := wr64 (by omega) (by omega)
        rw [loopW_eq]
        generalize loopW (bd E0 (ev E0) loopW 0 [0, 1, 5, 8, 9] L65b0) = K at h5 ⊢
        unfold bx hp jb at *
        simpa -implicitDefEqProofs [bd, L65b0, hi, hx, hw, hc, hm, hwe] using h5
theorem again_loop (js : List J) (hj : ∀ j ∈ js, JB j) (pl : List Hh) (hb : ∀ x ∈ pl, HB js x) (M : Int) (hM : M ≤ 90000) (hE : ∀ x ∈ pl, endH js x ≤ M) (hpl : pl.length ≤ 1099511627776) (k : Nat) (hk : k < js.length) (f : Int) (f0 : -10 ≤ f) (f1 : f ≤ 20) : ∀ (n : Nat) (b : Int), M - b < n → 0 ≤ b → b ≤ 90000 →
    ∃ b' : Int, b ≤ b' ∧ (b' = b ∨ b' ≤ M) ∧ (∀ c, b ≤ c → c < b' → blk js pl k f c = true) ∧ blk js pl k f b' = false ∧
    packX 0 [0, 1, 5] (loopW (bd E0 (ev E0) loopW 0 [0, 1, 5, 8] L65b1) ⟨[(0, .lst 4 (js.map jb)), (1, .lst 3 (pl.map hp)), (5, .ptr 0 0 0), (8, bl true)], [bx ((k : Int), f, b)]⟩) = some (.ext 0, ⟨[(0, .lst 4 (js.map jb)), (1, .lst 3 (pl.map hp)), (5, .ptr 0 0 0)], [bx ((k : Int), f, b')]⟩) := by
  intro n
  have stop : ∀ b : Int, packX 0 [0, 1, 5] (loopW (bd E0 (ev E0) loopW 0 [0, 1, 5, 8] L65b1) ⟨[(0, .lst 4 (js.map jb)), (1, .lst 3 (pl.map hp)), (5, .ptr 0 0 0), (8, bl false)], [bx ((k : Int), f, b)]⟩) = some (.ext 0, ⟨[(0, .lst 4 (js.map jb)), (1, .lst 3 (pl.map hp)), (5, .ptr 0 0 0)], [bx ((k : Int), f, b)]⟩) := by
    intro b
    rw [loopW_eq]
    generalize loopW (bd E0 (ev E0) loopW 0 [0, 1, 5, 8] L65b1) = K
    unfold bx hp
    simp -implicitDefEqProofs [bd, L65b1]
  induction n with
  | zero =>
    intro b hn hb0 hb1
    obtain ⟨b', h1, h2, h3, h4, h5⟩ := pass_loop js hj pl hb M hM hE hpl k hk f f0 f1 pl 0 b false rfl hb0 hb1
    have hbb : b' = b := by omega
    subst hbb
    refine ⟨b', Int.le_refl _, .inl rfl, h3, h4 rfl, ?_⟩
    have hs := stop b'
    rw [c0, decide_eq_true (rfl : b' = b'), Bool.not_true, Bool.or_false] at h5
    rw [loopW_eq]
    generalize loopW (bd E0 (ev E0) loopW 0 [0, 1, 5, 8] L65b1) = K at hs ⊢
    unfold bx hp at *
    simpa -implicitDefEqProofs [bd, L65b1, h5] using hs
  | succ n ih =>
    intro b hn hb0 hb1
    obtain ⟨b', h1, h2, h3, h4, h5⟩ := pass_loop js hj pl hb M hM hE hpl k hk f f0 f1 pl 0 b false rfl hb0 hb1
    by_cases hbb : b' = b
    · subst hbb
      refine ⟨b', Int.le_refl _, .inl rfl, h3, h4 rfl, ?_⟩
      have hs := stop b'
      rw [c0, decide_eq_true (rfl : b' = b'), Bool.not_true, Bool.or_false] at h5
      rw [loopW_eq]
      generalize loopW (bd E0 (ev E0) loopW 0 [0, 1, 5, 8] L65b1) = K at hs ⊢
      unfold bx hp at *
      simpa -implicitDefEqProofs [bd, L65b1, h5] using hs
    · have hM2 : b' ≤ M := by rcases h2 with h | h; exact absurd h hbb; exact h
      obtain ⟨b2, g1, g2, g3, g4, g5⟩ := ih b' (by omega) (by omega) (by omega)
      refine ⟨b2, by omega, .inr (by rcases g2 with g | g <;> omega), fun c c1 c2 => ?_, g4, ?_⟩
      · by_cases hc : c < b'
        · exact h3 c c1 hc
        · exact g3 c (by omega) c2
      · rw [c0, decide_eq_false hbb, Bool.not_false, Bool.or_true] at h5
        rw [loopW_eq]
        generalize loopW (bd E0 (ev E0) loopW 0 [0, 1, 5, 8] L65b1) = K at g5 ⊢
        unfold bx hp at *
        simpa -implicitDefEqProofs [bd, L65b1, h5] using g5
theorem pos_loop (js : List J) (pl : List Hh) (hpl : pl.length ≤ 1099511627776) (h : Hh) : ∀ (t : List Hh) (i : Nat), pl.drop i = t →
    packX 0 [0, 1, 5, 10] (loopW (bd E0 (ev E0) loopW 0 [0, 1, 5, 10] L65b2) ⟨[(0, .lst 4 (js.map jb)), (1, .lst 3 (pl.map hp)), (5, .ptr 0 0 0), (10, i64 i)], [bx h]⟩) = some (.ext 4, ⟨[(0, .lst 4 (js.map jb)), (1, .lst 3 (pl.map hp)), (5, .ptr 0 0 0), (10, i64 (i + posH h t : Nat))], [bx h]⟩) := by
  intro t
  induction t with
  | nil =>
    intro i hd0
    have hi := not_drop hd0
    rw [loopW_eq]
    generalize loopW (bd E0 (ev E0) loopW 0 [0, 1, 5, 10] L65b2) = K
    unfold bx hp posH
    simp -implicitDefEqProofs [bd, L65b2, hi]
  | cons x t ih =>
    intro i hd0
    obtain ⟨hi, hx, hd, hmem⟩ := at_drop hd0
    have hih := ih (i + 1) hd
    have hw : IntKind.i64.wrap ((i : Int) + 1) = (i : Int) + 1 := wr64 (by omega) (by omega)
    have hbf := before_s x h
    rw [loopW_eq]
    unfold posH
    cases hc : bef x h with
    | false =>
      rw [hc] at hbf
      generalize loopW (bd E0 (ev E0) loopW 0 [0, 1, 5, 10] L65b2) = K
      unfold bx hp at *
      simp -implicitDefEqProofs [bd, L65b2, hi, hx, hbf]
    | true =>
      rw [hc] at hbf
      rw [show i + 1 + posH h t = i + (posH h t + 1) by omega] at hih
      simp only [if_true]
      generalize i + (posH h t + 1) = q at hih ⊢
      rw [cs1] at hih
      generalize loopW (bd E0 (ev E0) loopW 0 [0, 1, 5, 10] L65b2) = K at hih ⊢
      unfold bx hp at *
      simpa -implicitDefEqProofs [bd, L65b2, hi, hx, hbf, hw] using hih
end Go.Proofs.YtlmjoimjdpfamaaGreat.Ev
