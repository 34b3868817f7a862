/- The operations that make and write memory, held against the model. -/
import Derived.Test.YtbbnecjaojobfaaDoorEvPure3
set_option linter.unusedVariables false
set_option linter.unusedSimpArgs false
set_option linter.constructorNameAsVariable false
namespace Go.Proofs.YtbbnecjaojobfaaDoor.Ev
variable {P : Program} {base : Nat} {M : Nat → Prop} {ρ : Rho} {w : World}
theorem getElem?_snoc {α : Type} (l : List α) (a : α) (i : Nat) (x : α) : (l ++ [a])[i]? = some x ↔ l[i]? = some x ∨ (i = l.length ∧ a = x) := by
  by_cases h : i < l.length
  · rw [List.getElem?_append_left h]
    constructor
    · exact .inl
    · rintro (h1 | ⟨h1, _⟩)
      · exact h1
      · omega
  · rw [List.getElem?_append_right (by omega)]
    by_cases h2 : i = l.length
    · subst h2; simp
    · rw [List.getElem?_eq_none (by simp; omega)]
      constructor
      · intro h; cases h
      · rintro (h1 | ⟨h1, _⟩)
        · have := (List.getElem?_eq_some_iff.1 h1).1; omega
        · exact absurd h1 h2
/-- A new block of the state's own. -/
theorem HR.push {H : Hp} (hH : HR base M ρ H w) (hb : base ≤ w.heap.size) {w' : World} {cur : Array Value} {fr : Nat × Nat} {b : Blk} {cap : Nat} (hp : w'.heap = w.heap.push (.cells cur b.ty fr))
    (hos : w'.os = w.os) (hta : w'.tape = w.tape) (hou : w'.output = w.output) (hsz : cur.size = cap * b.k) (hk : 0 < b.k) (hro : b.ro = false) (hfr : fr = (0, 0) ∨ (b.kd = 2 ∧ cur.size ≤ fr.1)) (hcm : cap ≤ maxLen) (hle : b.es.length ≤ cap)
    (hek : ∀ (i : Nat) (e : AV), b.es[i]? = some e → e.cells.length = b.k)
    (hc : ∀ (i : Nat) (e : AV) (j : Nat) (c : AV), b.es[i]? = some e → e.cells[j]? = some c → ∃ u, cur[i * b.k + j]? = some u ∧ u.oneCell' = true ∧ VR M w (if b.kd = 0 then ρ else []) c u) :
    HR base M (ρ ++ [some ⟨w.heap.size, cap, b.k⟩]) (H ++ [some b]) w' ∧ Ext M ρ H w M (ρ ++ [some ⟨w.heap.size, cap, b.k⟩]) (H ++ [some b]) w' := by
  have old : ∀ g, g < w.heap.size → w'.heap[g]? = w.heap[g]? := fun g hg => by rw [hp, Array.getElem?_push, if_neg (by omega)]
  have hM : ∀ g, M g → w'.heap[g]? = w.heap[g]? := fun g hg => old g (hH.mlt g hg)
  have hsize : w'.heap.size = w.heap.size + 1 := by rw [hp]; simp
  refine ⟨{ len := by simp [hH.len], dead := fun id => ?_, blk := fun id b' L hb' hL => ?_, inj := fun id id' L L' h1 h2 hne => ?_, mlt := fun g hg => by have := hH.mlt g hg; omega }, ?_⟩
  · rw [getElem?_snoc, getElem?_snoc, hH.dead]
    simp
  · rcases (getElem?_snoc _ _ _ _).1 hb' with h1 | ⟨rfl, h1⟩
    · rcases (getElem?_snoc _ _ _ _).1 hL with h2 | ⟨h2, _⟩
      · have q := hH.blk id b' L h1 h2
        obtain ⟨cur', fr', a1, a2, a3, a4⟩ := q.cur
        exact { lo := q.lo, kk := q.kk, kp := q.kp, ro := q.ro, capm := q.capm, len := q.len, ek := q.ek,
                cur := ⟨cur', fr', by rw [old _ q.lt]; exact a1, a2, a3, fun i e j c he hcc => by
                  obtain ⟨u, c1, c2, c3⟩ := a4 i e j c he hcc
                  refine ⟨u, c1, c2, ?_⟩
                  split
                  · rename_i hk0; rw [if_pos hk0] at c3; exact c3.mono (fun _ h => h) hM (Rle.append _ _)
                  · rename_i hk0; rw [if_neg hk0] at c3; exact c3.mono (fun _ h => h) hM (Rle.refl _)⟩ }
      · have := (List.getElem?_eq_some_iff.1 h1).1
        rw [hH.len] at this
        omega
    · cases h1
      have hL' : some L = some (⟨w.heap.size, cap, b.k⟩ : Loc) := by
        rcases (getElem?_snoc _ _ _ _).1 hL with h2 | ⟨_, h2⟩
        · have := (List.getElem?_eq_some_iff.1 h2).1
          rw [← hH.len] at this
          omega
        · exact h2.symm
      cases hL'
      exact { lo := hb, kk := rfl, kp := hk, ro := ⟨fun h => absurd (hro.symm.trans h) (by simp), fun h => absurd (hH.mlt _ h) (by simp)⟩, capm := hcm, len := hle, ek := hek,
              cur := ⟨cur, fr, by rw [hp, Array.getElem?_push, if_pos rfl], hsz, hfr, fun i e j c he hcc => by
                obtain ⟨u, c1, c2, c3⟩ := hc i e j c he hcc
                refine ⟨u, c1, c2, ?_⟩
                split
                · rename_i hk0; rw [if_pos hk0] at c3; exact c3.mono (fun _ h => h) hM (Rle.append _ _)
                · rename_i hk0; rw [if_neg hk0] at c3; exact c3.mono (fun _ h => h) hM (Rle.refl _)⟩ }
  · have lt : ∀ {id : Nat} {L : Loc}, ρ[id]? = some (some L) → L.g < w.heap.size := fun h => by
      obtain ⟨b', hb'⟩ := hH.back h
      exact (hH.blk _ b' _ hb' h).lt
    rcases (getElem?_snoc _ _ _ _).1 h1 with a1 | ⟨a1, a2⟩ <;> rcases (getElem?_snoc _ _ _ _).1 h2 with b1 | ⟨b1, b2⟩
    · exact hH.inj id id' L L' a1 b1 hne
    · cases b2
      have := lt a1
      simp
      omega
    · cases a2
      have := lt b1
      simp
      omega
    · omega
  · refine ⟨hos, hta, hou, by omega, fun g hg _ => old g hg, fun _ h => h, fun _ h => .inl h, fun g hg => ?_, Rle.append _ _⟩
    obtain ⟨id, b', L, h1, h2, h3, rfl⟩ := hg
    rcases (getElem?_snoc _ _ _ _).1 h1 with a1 | ⟨rfl, a1⟩
    · rcases (getElem?_snoc _ _ _ _).1 h3 with a3 | ⟨a3, _⟩
      · exact .inl ⟨id, b', L, a1, h2, a3, rfl⟩
      · have := (List.getElem?_eq_some_iff.1 a1).1
        rw [hH.len] at this
        omega
    · rcases (getElem?_snoc _ _ _ _).1 h3 with a3 | ⟨_, a3⟩
      · have := (List.getElem?_eq_some_iff.1 a3).1
        rw [← hH.len] at this
        omega
      · cases a3
        exact .inr (Nat.le_refl _)
theorem push_ref {H : Hp} (hH : HR base M ρ H w) (L : Loc) : (ρ ++ [some L])[H.length]? = some (some L) := by
  rw [hH.len, List.getElem?_append_right (Nat.le_refl _)]
  simp
-- ---------------------------------------------------------------- freezing
/-- The blocks named. -/
def Mi (ρ : Rho) (l : List Nat) (g : Nat) : Prop := ∃ id ∈ l, ∃ L, ρ[id]? = some (some L) ∧ L.g = g
def Mu (M : Nat → Prop) (ρ : Rho) (l : List Nat) (g : Nat) : Prop := M g ∨ Mi ρ l g
theorem Mu.mono {l m : List Nat} (h : ∀ x ∈ l, x ∈ m) : ∀ g, Mu M ρ l g → Mu M ρ m g := by
  rintro g (h1 | ⟨id, h2, h3⟩)
  · exact .inl h1
  · exact .inr ⟨id, h id h2, h3⟩
theorem VR.wide {M' : Nat → Prop} (hM : ∀ g, M g → M' g) {a : AV} {v : Value} (h : VR M w ρ a v) : VR M' w ρ a v := h.mono hM (fun _ _ => rfl) (Rle.refl _)
def FzOk (base : Nat) (M : Nat → Prop) (ρ : Rho) (w : World) (f : AV → Option (AV × List Nat)) : Prop := ∀ (a : AV) (v : Value) (a' : AV) (l : List Nat), f a = some (a', l) → VR M w ρ a v → VR (Mu M ρ l) w [] a' v
theorem fzL_len {f : AV → Option (AV × List Nat)} : ∀ {cs cs' : List AV} {l : List Nat}, fzL f cs = some (cs', l) → cs'.length = cs.length
  | [], cs', l, h => by cases h; rfl
  | a :: r, cs', l, h => by
    simp only [fzL] at h
    cases ha : f a with
    | none => rw [ha] at h; cases h
    | some p =>
      rw [ha] at h
      simp only [fzK] at h
      cases hr : fzL f r with
      | none => rw [hr] at h; cases h
      | some q =>
        rw [hr] at h
        cases h
        simp [fzL_len hr]
theorem fzL_ok {f : AV → Option (AV × List Nat)} (hf : FzOk base M ρ w f) : ∀ {cs cs' : List AV} {l : List Nat}, fzL f cs = some (cs', l) →
    ∀ (i : Nat) (c c' : AV) (u : Value), cs[i]? = some c → cs'[i]? = some c' → VR M w ρ c u → VR (Mu M ρ l) w [] c' u
  | [], cs', l, h, i, c, c', u, h1, _, _ => by simp at h1
  | a :: r, cs', l, h, i, c, c', u, h1, h2, h3 => by
    simp only [fzL] at h
    cases ha : f a with
    | none => rw [ha] at h; cases h
    | some p =>
      rw [ha] at h
      simp only [fzK] at h
      cases hr : fzL f r with
      | none => rw [hr] at h; cases h
      | some q =>
        rw [hr] at h
        cases h
        cases i with
        | zero =>
          simp at h1 h2
          subst h1
          subst h2
          exact (hf a u p.1 p.2 ha h3).wide (Mu.mono fun x hx => by simp [hx])
        | succ i => exact (fzL_ok hf hr i c c' u (by simpa using h1) (by simpa using h2) h3).wide (Mu.mono fun x hx => by simp [hx])
theorem get_of_len {α β : Type} {l : List α} {m : List β} (h : l.length = m.length) {i : Nat} {b : β} (hb : m[i]? = some b) : ∃ a, l[i]? = some a := by
  have : i < l.length := by rw [h]; exact (List.getElem?_eq_some_iff.1 hb).1
  exact ⟨_, List.getElem?_eq_getElem this⟩
theorem fz_ok {H : Hp} (hH : HR base M ρ H w) : ∀ d, FzOk base M ρ w (fz H d)
  | 0, a, v, a', l, h, _ => by cases h
  | d + 1, a, v, a', l, h, hv => by
    have ih := fz_ok hH d
    cases a with
    | x => cases h
    | v c =>
      cases h
      obtain rfl := vr_v hv
      exact .v
    | lst k xs =>
      cases h
      cases hv with
      | lst U hc ha hk hm hr => exact (VR.lst (ρ := []) U hc ha hk hm hr).wide fun _ h => .inl h
    | el e j =>
      cases h
      cases hv with
      | el U hs hM hm hr => exact (VR.el (ρ := []) U hs hM hm hr).wide fun _ h => .inl h
    | sl id off n =>
      simp only [fz] at h
      cases hb : hget H id with
      | none => rw [hb] at h; cases h
      | some b =>
        rw [hb] at h
        simp only [fzS] at h
        split at h
        · rename_i hc
          cases h
          obtain ⟨L, A, c, hL, h1, h2, hA, rfl⟩ := live_sl hH hv hb
          have q := hH.blk id b L (hget_some hb) hL
          have hlen : ((b.es.drop off).take n).length = n := by simp; omega
          have hat : ∀ (i : Nat) (e : AV), ((b.es.drop off).take n)[i]? = some e → b.es[off + i]? = some e ∧ i < n := by
            intro i e he
            rw [List.getElem?_take] at he
            split at he
            · rename_i hi; exact ⟨by rwa [List.getElem?_drop] at he, hi⟩
            · cases he
          obtain ⟨cur, fr, a1, a2, a3, a4⟩ := q.cur
          suffices key : VR (Mu M ρ [id]) w [] (.lst b.k ((b.es.drop off).take n)) (.slice A ((b.es.drop off).take n).length c) by rwa [hlen] at key
          have a4' : ∀ (i : Nat) (e : AV) (j : Nat) (c : AV), ((b.es.drop off).take n)[i]? = some e → e.cells[j]? = some c → cur[(off + i) * b.k + j]? = some (cur.getD ((off + i) * b.k + j) undef) ∧ (cur.getD ((off + i) * b.k + j) undef).oneCell' = true ∧ VR M w [] c (cur.getD ((off + i) * b.k + j) undef) := by
            intro i e j c he hcc
            obtain ⟨u, c1, c2, c3⟩ := a4 _ e j c (hat i e he).1 hcc
            rw [if_neg hc.1] at c3
            rw [Array.getD_eq_getD_getElem?, c1]
            exact ⟨rfl, c2, c3⟩
          refine .lst (fun i j => cur.getD ((off + i) * b.k + j) undef) (by rw [hlen]; exact h2) (fun hn => ?_) (fun i e he => q.ek _ _ (hat i e he).1) (fun a hAa i e j c he hcc => ?_) (fun i e j c he hcc => (a4' i e j c he hcc).2.2.wide fun _ h => .inl h)
          · have hn0 : 0 < n := by
              cases n with
              | zero => simp at hn
              | succ n => omega
            refine ⟨⟨L.g, off * L.k, none⟩, ?_, rfl, .inr ⟨id, by simp, L, hL, rfl⟩⟩
            rcases hA with hA | hA
            · omega
            · exact hA
          · have hA' : A = some ⟨L.g, off * L.k, none⟩ := by
              have := (hat i e he).2
              rcases hA with hA | hA
              · omega
              · exact hA
            rw [hA'] at hAa
            cases hAa
            obtain ⟨c1, c2, _⟩ := a4' i e j c he hcc
            refine ⟨?_, c2⟩
            rw [cell_of_row w L.g _ cur b.ty fr a1, q.kk, ← Nat.add_assoc, ← Nat.add_mul]
            exact c1
        · cases h
    | ptr id i j =>
      simp only [fz] at h
      cases hb : hget H id with
      | none => rw [hb] at h; cases h
      | some b =>
        rw [hb] at h
        simp only [fzB] at h
        obtain ⟨L, hL, rfl⟩ := live_ptr hH hv hb
        have q := hH.blk id b L (hget_some hb) hL
        obtain ⟨cur, fr, a1, a2, a3, a4⟩ := q.cur
        cases he : b.es[i]? with
        | none => rw [he] at h; cases h
        | some e =>
          rw [he] at h
          simp only [fzE] at h
          have cell : ∀ (x : Nat) (c : AV), e.cells[x]? = some c → w.cell? ⟨L.g, i * L.k + x, none⟩ = some (cur.getD (i * b.k + x) undef) ∧ (cur.getD (i * b.k + x) undef).oneCell' = true ∧ VR M w (if b.kd = 0 then ρ else []) c (cur.getD (i * b.k + x) undef) := by
            intro x c hx
            obtain ⟨u, c1, c2, c3⟩ := a4 i e x c he hx
            rw [cell_of_row w L.g _ cur b.ty fr a1, q.kk, Array.getD_eq_getD_getElem?, c1]
            exact ⟨rfl, c2, c3⟩
          split at h
          · rename_i hk0
            simp only [hk0, if_true] at cell
            cases hf : fzL (fz H d) e.cells with
            | none => rw [hf] at h; cases h
            | some p =>
              rw [hf] at h
              cases h
              have hlen := fzL_len hf
              refine .el (fun x => cur.getD (i * b.k + x) undef) rfl (.inr ⟨id, by simp, L, hL, rfl⟩) (fun x c hx hc => ?_) (fun x c hc => ?_)
              · obtain ⟨c0, hc0⟩ := get_of_len hlen.symm hc
                obtain ⟨c1, c2, _⟩ := cell x c0 hc0
                exact ⟨by rw [show i * L.k + j + (x - j) = i * L.k + x by omega]; exact c1, c2⟩
              · obtain ⟨c0, hc0⟩ := get_of_len hlen.symm hc
                obtain ⟨_, _, c3⟩ := cell x c0 hc0
                exact (fzL_ok ih hf x c0 c _ hc0 hc c3).wide (Mu.mono fun y hy => by simp [hy])
          · rename_i hk0
            simp only [hk0, if_false] at cell
            cases h
            refine .el (fun x => cur.getD (i * b.k + x) undef) rfl (.inr ⟨id, by simp, L, hL, rfl⟩) (fun x c hx hc => ?_) (fun x c hc => ?_)
            · obtain ⟨c1, c2, _⟩ := cell x c hc
              exact ⟨by rw [show i * L.k + j + (x - j) = i * L.k + x by omega]; exact c1, c2⟩
            · obtain ⟨_, _, c3⟩ := cell x c hc
              exact c3.wide fun _ h => .inl h
    | agg cs =>
      simp only [fz] at h
      cases hf : fzL (fz H d) cs with
      | none => rw [hf] at h; cases h
      | some p =>
        rw [hf] at h
        cases h
        have hlen := fzL_len hf
        cases hv with
        | agg hl ho hall =>
          refine .agg (hlen.trans hl) ho fun i c u h1 h2 => ?_
          obtain ⟨c0, hc0⟩ := get_of_len hlen.symm h1
          exact (fzL_ok ih hf i c0 c u hc0 h1 (hall i c0 u hc0 h2)).wide (Mu.mono fun y hy => by simpa using hy)
    | tup cs =>
      simp only [fz] at h
      cases hf : fzL (fz H d) cs with
      | none => rw [hf] at h; cases h
      | some p =>
        rw [hf] at h
        cases h
        have hlen := fzL_len hf
        cases hv with
        | tup hl hall =>
          refine .tup (hlen.trans hl) fun i c u h1 h2 => ?_
          obtain ⟨c0, hc0⟩ := get_of_len hlen.symm h1
          exact (fzL_ok ih hf i c0 c u hc0 h1 (hall i c0 u hc0 h2)).wide (Mu.mono fun y hy => by simpa using hy)
    | fn f a b =>
      simp only [fz] at h
      cases hf : fzL (fz H d) a with
      | none => rw [hf] at h; cases h
      | some p =>
        rw [hf] at h
        simp only [fzF] at h
        cases hg : fzL (fz H d) b with
        | none => rw [hg] at h; cases h
        | some q =>
          rw [hg] at h
          cases h
          have hlen := fzL_len hf
          have hlen2 := fzL_len hg
          cases hv with
          | fn hla hlb ha hb =>
            refine .fn (hlen.trans hla) (hlen2.trans hlb) (fun i c u h1 h2 => ?_) (fun i c u h1 h2 => ?_)
            · obtain ⟨c0, hc0⟩ := get_of_len hlen.symm h1
              exact (fzL_ok ih hf i c0 c u hc0 h1 (ha i c0 u hc0 h2)).wide (Mu.mono fun y hy => by simp [hy])
            · obtain ⟨c0, hc0⟩ := get_of_len hlen2.symm h1
              exact (fzL_ok ih hg i c0 c u hc0 h1 (hb i c0 u hc0 h2)).wide (Mu.mono fun y hy => by simp [hy])
/-- Read only from here on. -/
theorem markRo_get : ∀ (l : List Nat) (H : Hp) (id : Nat), (markRo l H)[id]? = match H[id]? with | some (some b) => some (some { b with ro := b.ro || l.contains id }) | o => o
  | [], H, id => by
    simp only [markRo]
    cases h : H[id]? with
    | none => rfl
    | some o =>
      cases o with
      | none => rfl
      | some b => simp
  | x :: l, H, id => by
    simp only [markRo]
    rw [markRo_get l]
    cases hx : hget H x with
    | none =>
      simp only []
      cases h : H[id]? with
      | none => rfl
      | some o =>
        cases o with
        | none => rfl
        | some b =>
          have hne : ¬ id = x := by
            rintro rfl
            unfold hget at hx
            rw [h] at hx
            cases hx
          simp only [List.contains_cons, beq_eq_false_iff_ne.2 hne, Bool.false_or]
    | some bx =>
      have hx' := hget_some hx
      simp only []
      rw [List.getElem?_set]
      by_cases hid : x = id
      · subst hid
        rw [if_pos rfl, if_pos (List.getElem?_eq_some_iff.1 hx').1, hx']
        simp
      · rw [if_neg hid]
        cases h : H[id]? with
        | none => rfl
        | some o =>
          cases o with
          | none => rfl
          | some b =>
            have hne : ¬ id = x := fun h => hid h.symm
            simp only [List.contains_cons, beq_eq_false_iff_ne.2 hne, Bool.false_or]
theorem markRo_len : ∀ (l : List Nat) (H : Hp), (markRo l H).length = H.length
  | [], H => rfl
  | x :: l, H => by
    simp only [markRo]
    rw [markRo_len l]
    cases hget H x <;> simp
theorem HR.mark {H : Hp} (hH : HR base M ρ H w) (l : List Nat) : HR base (Mu M ρ l) ρ (markRo l H) w ∧ Ext M ρ H w (Mu M ρ l) ρ (markRo l H) w := by
  have hM : ∀ g, M g → Mu M ρ l g := fun g h => .inl h
  have blkOf : ∀ {id : Nat} {b : Blk}, (markRo l H)[id]? = some (some b) → ∃ b0, H[id]? = some (some b0) ∧ b = { b0 with ro := b0.ro || l.contains id } := by
    intro id b h
    rw [markRo_get] at h
    cases h0 : H[id]? with
    | none => rw [h0] at h; cases h
    | some o =>
      cases o with
      | none => rw [h0] at h; cases h
      | some b0 => rw [h0] at h; cases h; exact ⟨b0, rfl, rfl⟩
  refine ⟨{ len := by rw [markRo_len, hH.len], dead := fun id => ?_, blk := fun id b L hb hL => ?_, inj := hH.inj, mlt := fun g hg => ?_ }, ?_⟩
  · rw [markRo_get, ← hH.dead]
    cases h : H[id]? with
    | none => simp
    | some o => cases o <;> simp
  · obtain ⟨b0, h0, rfl⟩ := blkOf hb
    have q := hH.blk id b0 L h0 hL
    obtain ⟨cur, fr, a1, a2, a3, a4⟩ := q.cur
    refine { lo := q.lo, kk := q.kk, kp := q.kp, capm := q.capm, len := q.len, ek := q.ek, ro := ?_,
             cur := ⟨cur, fr, a1, a2, a3, fun i e j c he hc => let ⟨u, c1, c2, c3⟩ := a4 i e j c he hc; ⟨u, c1, c2, c3.wide hM⟩⟩ }
    simp only [Bool.or_eq_true, List.contains_iff_mem]
    constructor
    · rintro (h | h)
      · exact .inl (q.ro.1 h)
      · exact .inr ⟨id, h, L, hL, rfl⟩
    · rintro (h | ⟨id', h1, L', h2, h3⟩)
      · exact .inl (q.ro.2 h)
      · right
        by_cases hid : id' = id
        · subst hid; exact h1
        · exact absurd h3 (hH.inj id' id L' L h2 hL hid)
  · rcases hg with h | ⟨id, _, L, hL, rfl⟩
    · exact hH.mlt g h
    · obtain ⟨b, hb⟩ := hH.back hL
      exact (hH.blk id b L hb hL).lt
  · refine ⟨rfl, rfl, rfl, Nat.le_refl _, fun _ _ _ => rfl, hM, fun g hg => ?_, fun g hg => ?_, Rle.refl _⟩
    · rcases hg with h | ⟨id, _, L, hL, rfl⟩
      · exact .inl h
      · obtain ⟨b, hb⟩ := hH.back hL
        cases hr : b.ro with
        | true => exact .inl ((hH.blk id b L hb hL).ro.1 hr)
        | false => exact .inr (.inl ⟨id, b, L, hb, hr, hL, rfl⟩)
    · obtain ⟨id, b, L, hb, hr, hL, rfl⟩ := hg
      obtain ⟨b0, h0, rfl⟩ := blkOf hb
      simp only [Bool.or_eq_false_iff] at hr
      exact .inl ⟨id, b0, L, h0, hr.1, hL, rfl⟩
end Go.Proofs.YtbbnecjaojobfaaDoor.Ev
