/- The operations that make and write memory, held against the model. -/
import Derived.Test.YtlmjoimjdpfamaaGreatEvBA
import Derived.Lib.AppendZeros
set_option linter.unusedVariables false
set_option linter.unusedSimpArgs false
set_option linter.constructorNameAsVariable false
set_option linter.unnecessarySimpa false
namespace Go.Proofs.YtlmjoimjdpfamaaGreat.Ev
variable {P : Program} {base : Nat} {M : Nat → Prop} {ρ : Rho} {w : World}
theorem getElem?_snoc {α : Type} (l : List α) (a : α) (i : Nat) (x : α) : (l ++ [a])[i]? = some x ↔ l[i]? = some x ∨ (i = l.length ∧ a = x) := by
  by_cases h : i < l.length
  · rw [List.getElem?_append_left h]
    constructor
    · exact .inl
    · rintro (h1 | ⟨h1, _⟩)
      · exact h1
      · omega
  · rw [List.getElem?_append_right (by omega)]
    by_cases h2 : i = l.length
    · subst h2; simp
    · rw [List.getElem?_eq_none (by simp; omega)]
      constructor
      · intro h; cases h
      · rintro (h1 | ⟨h1, _⟩)
        · have := (List.getElem?_eq_some_iff.1 h1).1; omega
        · exact absurd h1 h2
/-- A new block of the state's own. -/
theorem HR.push {H : Hp} (hH : HR base M ρ H w) (hb : base ≤ w.heap.size) {w' : World} {cur : Array Value} {fr : Nat × Nat} {b : Blk} {cap : Nat} (hp : w'.heap = w.heap.push (.cells cur b.ty fr))
    (hos : w'.os = w.os) (hta : w'.tape = w.tape) (hou : w'.output = w.output) (hsz : cur.size = cap * b.k) (hk : 0 < b.k) (hro : b.ro = false) (hfr : fr = (0, 0) ∨ (b.kd = 2 ∧ cur.size ≤ fr.1)) (hcm : cap ≤ maxLen) (hle : b.es.length ≤ cap)
    (hek : ∀ (i : Nat) (e : AV), b.es[i]? = some e → e.cells.length = b.k)
    (hc : ∀ (i : Nat) (e : AV) (j : Nat) (c : AV), b.es[i]? = some e → e.cells[j]? = some c → ∃ u, cur[i * b.k + j]? = some u ∧ u.oneCell' = true ∧ VR M w (if b.kd = 0 then ρ else []) c u) :
    HR base M (ρ ++ [some ⟨w.heap.size, cap, b.k⟩]) (H ++ [some b]) w' ∧ Ext M ρ H w M (ρ ++ [some ⟨w.heap.size, cap, b.k⟩]) (H ++ [some b]) w' := by
  have old : ∀ g, g < w.heap.size → w'.heap[g]? = w.heap[g]? := fun g hg => by rw [hp, Array.getElem?_push, if_neg (by omega)]
  have hM : ∀ g, M g → w'.heap[g]? = w.heap[g]? := fun g hg => old g (hH.mlt g hg)
  have hsize : w'.heap.size = w.heap.size + 1 := by rw [hp]; simp
  refine ⟨{ len := by simp [hH.len], dead := fun id => ?_, blk := fun id b' L hb' hL => ?_, inj := fun id id' L L' h1 h2 hne => ?_, mlt := fun g hg => by have := hH.mlt g hg; omega }, ?_⟩
  · rw [getElem?_snoc, getElem?_snoc, hH.dead]
    simp
  · rcases (getElem?_snoc _ _ _ _).1 hb' with h1 | ⟨rfl, h1⟩
    · rcases (getElem?_snoc _ _ _ _).1 hL with h2 | ⟨h2, _⟩
      · have q := hH.blk id b' L h1 h2
        obtain ⟨cur', fr', a1, a2, a3, a4⟩ := q.cur
        exact { lo := q.lo, kk := q.kk, kp := q.kp, ro := q.ro, capm := q.capm, len := q.len, ek := q.ek,
                cur := ⟨cur', fr', by rw [old _ q.lt]; exact a1, a2, a3, fun i e j c he hcc => by
                  obtain ⟨u, c1, c2, c3⟩ := a4 i e j c he hcc
                  refine ⟨u, c1, c2, ?_⟩
                  split
                  · rename_i hk0; rw [if_pos hk0] at c3; exact c3.mono (fun _ h => h) hM (Rle.append _ _)
                  · rename_i hk0; rw [if_neg hk0] at c3; exact c3.mono (fun _ h => h) hM (Rle.refl _)⟩ }
      · have := (List.getElem?_eq_some_iff.1 h1).1
        rw [hH.len] at this
        omega
    · cases h1
      have hL' : some L = some (⟨w.heap.size, cap, b.k⟩ : Loc) := by
        rcases (getElem?_snoc _ _ _ _).1 hL with h2 | ⟨_, h2⟩
        · have := (List.getElem?_eq_some_iff.1 h2).1
          rw [← hH.len] at this
          omega
        · exact h2.symm
      cases hL'
      exact { lo := hb, kk := rfl, kp := hk, ro := ⟨fun h => absurd (hro.symm.trans h) (by simp), fun h => absurd (hH.mlt _ h) (by simp)⟩, capm := hcm, len := hle, ek := hek,
              cur := ⟨cur, fr, by rw [hp, Array.getElem?_push, if_pos rfl], hsz, hfr, fun i e j c he hcc => by
                obtain ⟨u, c1, c2, c3⟩ := hc i e j c he hcc
                refine ⟨u, c1, c2, ?_⟩
                split
                · rename_i hk0; rw [if_pos hk0] at c3; exact c3.mono (fun _ h => h) hM (Rle.append _ _)
                · rename_i hk0; rw [if_neg hk0] at c3; exact c3.mono (fun _ h => h) hM (Rle.refl _)⟩ }
  · have lt : ∀ {id : Nat} {L : Loc}, ρ[id]? = some (some L) → L.g < w.heap.size := fun h => by
      obtain ⟨b', hb'⟩ := hH.back h
      exact (hH.blk _ b' _ hb' h).lt
    rcases (getElem?_snoc _ _ _ _).1 h1 with a1 | ⟨a1, a2⟩ <;> rcases (getElem?_snoc _ _ _ _).1 h2 with b1 | ⟨b1, b2⟩
    · exact hH.inj id id' L L' a1 b1 hne
    · cases b2
      have := lt a1
      simp
      omega
    · cases a2
      have := lt b1
      simp
      omega
    · omega
  · refine ⟨hos, hta, hou, by omega, fun g hg _ => old g hg, fun _ h => h, fun _ h => .inl h, fun g hg => ?_, Rle.append _ _⟩
    obtain ⟨id, b', L, h1, h2, h3, rfl⟩ := hg
    rcases (getElem?_snoc _ _ _ _).1 h1 with a1 | ⟨rfl, a1⟩
    · rcases (getElem?_snoc _ _ _ _).1 h3 with a3 | ⟨a3, _⟩
      · exact .inl ⟨id, b', L, a1, h2, a3, rfl⟩
      · have := (List.getElem?_eq_some_iff.1 a1).1
        rw [hH.len] at this
        omega
    · rcases (getElem?_snoc _ _ _ _).1 h3 with a3 | ⟨_, a3⟩
      · have := (List.getElem?_eq_some_iff.1 a3).1
        rw [← hH.len] at this
        omega
      · cases a3
        exact .inr (Nat.le_refl _)
theorem push_ref {H : Hp} (hH : HR base M ρ H w) (L : Loc) : (ρ ++ [some L])[H.length]? = some (some L) := by
  rw [hH.len, List.getElem?_append_right (Nat.le_refl _)]
  simp
-- ---------------------------------------------------------------- freezing
/-- The blocks named. -/
def Mi (ρ : Rho) (l : List Nat) (g : Nat) : Prop := ∃ id ∈ l, ∃ L, ρ[id]? = some (some L) ∧ L.g = g
def Mu (M : Nat → Prop) (ρ : Rho) (l : List Nat) (g : Nat) : Prop := M g ∨ Mi ρ l g
theorem Mu.mono {l m : List Nat} (h : ∀ x ∈ l, x ∈ m) : ∀ g, Mu M ρ l g → Mu M ρ m g := by
  rintro g (h1 | ⟨id, h2, h3⟩)
  · exact .inl h1
  · exact .inr ⟨id, h id h2, h3⟩
theorem VR.wide {M' : Nat → Prop} (hM : ∀ g, M g → M' g) {a : AV} {v : Value} (h : VR M w ρ a v) : VR M' w ρ a v := h.mono hM (fun _ _ => rfl) (Rle.refl _)
def FzOk (base : Nat) (M : Nat → Prop) (ρ : Rho) (w : World) (f : AV → Option (AV × List Nat)) : Prop := ∀ (a : AV) (v : Value) (a' : AV) (l : List Nat), f a = some (a', l) → VR M w ρ a v → VR (Mu M ρ l) w [] a' v
theorem fzL_len {f : AV → Option (AV × List Nat)} : ∀ {cs cs' : List AV} {l : List Nat}, fzL f cs = some (cs', l) → cs'.length = cs.length
  | [], cs', l, h => by cases h; rfl
  | a :: r, cs', l, h => by
    simp only [fzL] at h
    cases ha : f a with
    | none => rw [ha] at h; cases h
    | some p =>
      rw [ha] at h
      simp only [fzK] at h
      cases hr : fzL f r with
      | none => rw [hr] at h; cases h
      | some q =>
        rw [hr] at h
        cases h
        simp [fzL_len hr]
theorem fzL_ok {f : AV → Option (AV × List Nat)} (hf : FzOk base M ρ w f) : ∀ {cs cs' : List AV} {l : List Nat}, fzL f cs = some (cs', l) →
    ∀ (i : Nat) (c c' : AV) (u : Value), cs[i]? = some c → cs'[i]? = some c' → VR M w ρ c u → VR (Mu M ρ l) w [] c' u
  | [], cs', l, h, i, c, c', u, h1, _, _ => by simp at h1
  | a :: r, cs', l, h, i, c, c', u, h1, h2, h3 => by
    simp only [fzL] at h
    cases ha : f a with
    | none => rw [ha] at h; cases h
    | some p =>
      rw [ha] at h
      simp only [fzK] at h
      cases hr : fzL f r with
      | none => rw [hr] at h; cases h
      | some q =>
        rw [hr] at h
        cases h
        cases i with
        | zero =>
          simp at h1 h2
          subst h1
          subst h2
          exact (hf a u p.1 p.2 ha h3).wide (Mu.mono fun x hx => by simp [hx])
        | succ i => exact (fzL_ok hf hr i c c' u (by simpa using h1) (by simpa using h2) h3).wide (Mu.mono fun x hx => by simp [hx])
theorem get_of_len {α β : Type} {l : List α} {m : List β} (h : l.length = m.length) {i : Nat} {b : β} (hb : m[i]? = some b) : ∃ a, l[i]? = some a := by
  have : i < l.length := by rw [h]; exact (List.getElem?_eq_some_iff.1 hb).1
  exact ⟨_, List.getElem?_eq_getElem this⟩
theorem fz_ok {H : Hp} (hH : HR base M ρ H w) : ∀ d, FzOk base M ρ w (fz H d)
  | 0, a, v, a', l, h, _ => by cases h
  | d + 1, a, v, a', l, h, hv => by
    have ih := fz_ok hH d
    cases a with
    | x => cases h
    | v c =>
      cases h
      obtain rfl := vr_v hv
      exact .v
    | lst k xs =>
      cases h
      cases hv with
      | lst U hc ha hk hm hr => exact (VR.lst (ρ := []) U hc ha hk hm hr).wide fun _ h => .inl h
    | el e j =>
      cases h
      cases hv with
      | el U hs hM hm hr => exact (VR.el (ρ := []) U hs hM hm hr).wide fun _ h => .inl h
    | sl id off n =>
      simp only [fz] at h
      cases hb : hget H id with
      | none => rw [hb] at h; cases h
      | some b =>
        rw [hb] at h
        simp only [fzS] at h
        split at h
        · rename_i hc
          cases h
          obtain ⟨L, A, c, hL, h1, h2, hA, rfl⟩ := live_sl hH hv hb
          have q := hH.blk id b L (hget_some hb) hL
          have hlen : ((b.es.drop off).take n).length = n := by simp; omega
          have hat : ∀ (i : Nat) (e : AV), ((b.es.drop off).take n)[i]? = some e → b.es[off + i]? = some e ∧ i < n := by
            intro i e he
            rw [List.getElem?_take] at he
            split at he
            · rename_i hi; exact ⟨by rwa [List.getElem?_drop] at he, hi⟩
            · cases he
          obtain ⟨cur, fr, a1, a2, a3, a4⟩ := q.cur
          suffices key : VR (Mu M ρ [id]) w [] (.lst b.k ((b.es.drop off).take n)) (.slice A ((b.es.drop off).take n).length c) by rwa [hlen] at key
          have a4' : ∀ (i : Nat) (e : AV) (j : Nat) (c : AV), ((b.es.drop off).take n)[i]? = some e → e.cells[j]? = some c → cur[(off + i) * b.k + j]? = some (cur.getD ((off + i) * b.k + j) undef) ∧ (cur.getD ((off + i) * b.k + j) undef).oneCell' = true ∧ VR M w [] c (cur.getD ((off + i) * b.k + j) undef) := by
            intro i e j c he hcc
            obtain ⟨u, c1, c2, c3⟩ := a4 _ e j c (hat i e he).1 hcc
            rw [if_neg hc.1] at c3
            rw [Array.getD_eq_getD_getElem?, c1]
            exact ⟨rfl, c2, c3⟩
          refine .lst (fun i j => cur.getD ((off + i) * b.k + j) undef) (by rw [hlen]; exact h2) (fun hn => ?_) (fun i e he => q.ek _ _ (hat i e he).1) (fun a hAa i e j c he hcc => ?_) (fun i e j c he hcc => (a4' i e j c he hcc).2.2.wide fun _ h => .inl h)
          · have hn0 : 0 < n := by
              cases n with
              | zero => simp at hn
              | succ n => omega
            refine ⟨⟨L.g, off * L.k, none⟩, ?_, rfl, .inr ⟨id, by simp, L, hL, rfl⟩⟩
            rcases hA with hA | hA
            · omega
            · exact hA
          · have hA' : A = some ⟨L.g, off * L.k, none⟩ := by
              have := (hat i e he).2
              rcases hA with hA | hA
              · omega
              · exact hA
            rw [hA'] at hAa
            cases hAa
            obtain ⟨c1, c2, _⟩ := a4' i e j c he hcc
            refine ⟨?_, c2⟩
            rw [cell_of_row w L.g _ cur b.ty fr a1, q.kk, ← Nat.add_assoc, ← Nat.add_mul]
            exact c1
        · cases h
    | ptr id i j =>
      simp only [fz] at h
      cases hb : hget H id with
      | none => rw [hb] at h; cases h
      | some b =>
        rw [hb] at h
        simp only [fzB] at h
        obtain ⟨L, hL, rfl⟩ := live_ptr hH hv hb
        have q := hH.blk id b L (hget_some hb) hL
        obtain ⟨cur, fr, a1, a2, a3, a4⟩ := q.cur
        cases he : b.es[i]? with
        | none => rw [he] at h; cases h
        | some e =>
          rw [he] at h
          simp only [fzE] at h
          have cell : ∀ (x : Nat) (c : AV), e.cells[x]? = some c → w.cell? ⟨L.g, i * L.k + x, none⟩ = some (cur.getD (i * b.k + x) undef) ∧ (cur.getD (i * b.k + x) undef).oneCell' = true ∧ VR M w (if b.kd = 0 then ρ else []) c (cur.getD (i * b.k + x) undef) := by
            intro x c hx
            obtain ⟨u, c1, c2, c3⟩ := a4 i e x c he hx
            rw [cell_of_row w L.g _ cur b.ty fr a1, q.kk, Array.getD_eq_getD_getElem?, c1]
            exact ⟨rfl, c2, c3⟩
          split at h
          · rename_i hk0
            simp only [hk0, if_true] at cell
            cases hf : fzL (fz H d) e.cells with
            | none => rw [hf] at h; cases h
            | some p =>
              rw [hf] at h
              cases h
              have hlen := fzL_len hf
              refine .el (fun x => cur.getD (i * b.k + x) undef) rfl (.inr ⟨id, by simp, L, hL, rfl⟩) (fun x c hx hc => ?_) (fun x c hc => ?_)
              · obtain ⟨c0, hc0⟩ := get_of_len hlen.symm hc
                obtain ⟨c1, c2, _⟩ := cell x c0 hc0
                exact ⟨by rw [show i * L.k + j + (x - j) = i * L.k + x by omega]; exact c1, c2⟩
              · obtain ⟨c0, hc0⟩ := get_of_len hlen.symm hc
                obtain ⟨_, _, c3⟩ := cell x c0 hc0
                exact (fzL_ok ih hf x c0 c _ hc0 hc c3).wide (Mu.mono fun y hy => by simp [hy])
          · rename_i hk0
            simp only [hk0, if_false] at cell
            cases h
            refine .el (fun x => cur.getD (i * b.k + x) undef) rfl (.inr ⟨id, by simp, L, hL, rfl⟩) (fun x c hx hc => ?_) (fun x c hc => ?_)
            · obtain ⟨c1, c2, _⟩ := cell x c hc
              exact ⟨by rw [show i * L.k + j + (x - j) = i * L.k + x by omega]; exact c1, c2⟩
            · obtain ⟨_, _, c3⟩ := cell x c hc
              exact c3.wide fun _ h => .inl h
    | agg cs =>
      simp only [fz] at h
      cases hf : fzL (fz H d) cs with
      | none => rw [hf] at h; cases h
      | some p =>
        rw [hf] at h
        cases h
        have hlen := fzL_len hf
        cases hv with
        | agg hl ho hall =>
          refine .agg (hlen.trans hl) ho fun i c u h1 h2 => ?_
          obtain ⟨c0, hc0⟩ := get_of_len hlen.symm h1
          exact (fzL_ok ih hf i c0 c u hc0 h1 (hall i c0 u hc0 h2)).wide (Mu.mono fun y hy => by simpa using hy)
    | tup cs =>
      simp only [fz] at h
      cases hf : fzL (fz H d) cs with
      | none => rw [hf] at h; cases h
      | some p =>
        rw [hf] at h
        cases h
        have hlen := fzL_len hf
        cases hv with
        | tup hl hall =>
          refine .tup (hlen.trans hl) fun i c u h1 h2 => ?_
          obtain ⟨c0, hc0⟩ := get_of_len hlen.symm h1
          exact (fzL_ok ih hf i c0 c u hc0 h1 (hall i c0 u hc0 h2)).wide (Mu.mono fun y hy => by simpa using hy)
    | fn f a b =>
      simp only [fz] at h
      cases hf : fzL (fz H d) a with
      | none => rw [hf] at h; cases h
      | some p =>
        rw [hf] at h
        simp only [fzF] at h
        cases hg : fzL (fz H d) b with
        | none => rw [hg] at h; cases h
        | some q =>
          rw [hg] at h
          cases h
          have hlen := fzL_len hf
          have hlen2 := fzL_len hg
          cases hv with
          | fn hla hlb ha hb =>
            refine .fn (hlen.trans hla) (hlen2.trans hlb) (fun i c u h1 h2 => ?_) (fun i c u h1 h2 => ?_)
            · obtain ⟨c0, hc0⟩ := get_of_len hlen.symm h1
              exact (fzL_ok ih hf i c0 c u hc0 h1 (ha i c0 u hc0 h2)).wide (Mu.mono fun y hy => by simp [hy])
            · obtain ⟨c0, hc0⟩ := get_of_len hlen2.symm h1
              exact (fzL_ok ih hg i c0 c u hc0 h1 (hb i c0 u hc0 h2)).wide (Mu.mono fun y hy => by simp [hy])
/-- Read only from here on. -/
theorem markRo_get : ∀ (l : List Nat) (H : Hp) (id : Nat), (markRo l H)[id]? = match H[id]? with | some (some b) => some (some { b with ro := b.ro || l.contains id }) | o => o
  | [], H, id => by
    simp only [markRo]
    cases h : H[id]? with
    | none => rfl
    | some o =>
      cases o with
      | none => rfl
      | some b => simp
  | x :: l, H, id => by
    simp only [markRo]
    rw [markRo_get l]
    cases hx : hget H x with
    | none =>
      simp only []
      cases h : H[id]? with
      | none => rfl
      | some o =>
        cases o with
        | none => rfl
        | some b =>
          have hne : ¬ id = x := by
            rintro rfl
            unfold hget at hx
            rw [h] at hx
            cases hx
          simp only [List.contains_cons, beq_eq_false_iff_ne.2 hne, Bool.false_or]
    | some bx =>
      have hx' := hget_some hx
      simp only []
      rw [List.getElem?_set]
      by_cases hid : x = id
      · subst hid
        rw [if_pos rfl, if_pos (List.getElem?_eq_some_iff.1 hx').1, hx']
        simp
      · rw [if_neg hid]
        cases h : H[id]? with
        | none => rfl
        | some o =>
          cases o with
          | none => rfl
          | some b =>
            have hne : ¬ id = x := fun h => hid h.symm
            simp only [List.contains_cons, beq_eq_false_iff_ne.2 hne, Bool.false_or]
theorem markRo_len : ∀ (l : List Nat) (H : Hp), (markRo l H).length = H.length
  | [], H => rfl
  | x :: l, H => by
    simp only [markRo]
    rw [markRo_len l]
    cases hget H x <;> simp
theorem HR.mark {H : Hp} (hH : HR base M ρ H w) (l : List Nat) : HR base (Mu M ρ l) ρ (markRo l H) w ∧ Ext M ρ H w (Mu M ρ l) ρ (markRo l H) w := by
  have hM : ∀ g, M g → Mu M ρ l g := fun g h => .inl h
  have blkOf : ∀ {id : Nat} {b : Blk}, (markRo l H)[id]? = some (some b) → ∃ b0, H[id]? = some (some b0) ∧ b = { b0 with ro := b0.ro || l.contains id } := by
    intro id b h
    rw [markRo_get] at h
    cases h0 : H[id]? with
    | none => rw [h0] at h; cases h
    | some o =>
      cases o with
      | none => rw [h0] at h; cases h
      | some b0 => rw [h0] at h; cases h; exact ⟨b0, rfl, rfl⟩
  refine ⟨{ len := by rw [markRo_len, hH.len], dead := fun id => ?_, blk := fun id b L hb hL => ?_, inj := hH.inj, mlt := fun g hg => ?_ }, ?_⟩
  · rw [markRo_get, ← hH.dead]
    cases h : H[id]? with
    | none => simp
    | some o => cases o <;> simp
  · obtain ⟨b0, h0, rfl⟩ := blkOf hb
    have q := hH.blk id b0 L h0 hL
    obtain ⟨cur, fr, a1, a2, a3, a4⟩ := q.cur
    refine { lo := q.lo, kk := q.kk, kp := q.kp, capm := q.capm, len := q.len, ek := q.ek, ro := ?_,
             cur := ⟨cur, fr, a1, a2, a3, fun i e j c he hc => let ⟨u, c1, c2, c3⟩ := a4 i e j c he hc; ⟨u, c1, c2, c3.wide hM⟩⟩ }
    simp only [Bool.or_eq_true, List.contains_iff_mem]
    constructor
    · rintro (h | h)
      · exact .inl (q.ro.1 h)
      · exact .inr ⟨id, h, L, hL, rfl⟩
    · rintro (h | ⟨id', h1, L', h2, h3⟩)
      · exact .inl (q.ro.2 h)
      · right
        by_cases hid : id' = id
        · subst hid; exact h1
        · exact absurd h3 (hH.inj id' id L' L h2 hL hid)
  · rcases hg with h | ⟨id, _, L, hL, rfl⟩
    · exact hH.mlt g h
    · obtain ⟨b, hb⟩ := hH.back hL
      exact (hH.blk id b L hb hL).lt
  · refine ⟨rfl, rfl, rfl, Nat.le_refl _, fun _ _ _ => rfl, hM, fun g hg => ?_, fun g hg => ?_, Rle.refl _⟩
    · rcases hg with h | ⟨id, _, L, hL, rfl⟩
      · exact .inl h
      · obtain ⟨b, hb⟩ := hH.back hL
        cases hr : b.ro with
        | true => exact .inl ((hH.blk id b L hb hL).ro.1 hr)
        | false => exact .inr (.inl ⟨id, b, L, hb, hr, hL, rfl⟩)
    · obtain ⟨id, b, L, hb, hr, hL, rfl⟩ := hg
      obtain ⟨b0, h0, rfl⟩ := blkOf hb
      simp only [Bool.or_eq_false_iff] at hr
      exact .inl ⟨id, b0, L, h0, hr.1, hL, rfl⟩
end Go.Proofs.YtlmjoimjdpfamaaGreat.Ev
namespace Go.Proofs.YtlmjoimjdpfamaaGreat.Ev
variable {P : Program} {base : Nat} {M : Nat → Prop} {ρ : Rho} {w : World}
/-- A block of the state's own in a place that nothing else names. -/
theorem HR.place {H : Hp} (hH : HR base M ρ H w) {w' : World} {g : Nat} (hb : base ≤ g) (hnM : ¬ M g) (hfree : ∀ (id : Nat) (L : Loc), ρ[id]? = some (some L) → L.g ≠ g) (hsize : w.heap.size ≤ w'.heap.size)
    (old : ∀ g', g' < w.heap.size → g' ≠ g → w'.heap[g']? = w.heap[g']?) {cur : Array Value} {fr : Nat × Nat} {b : Blk} {cap : Nat} (hp : w'.heap[g]? = some (.cells cur b.ty fr)) (hsz : cur.size = cap * b.k) (hk : 0 < b.k) (hro : b.ro = false)
    (hfr : fr = (0, 0) ∨ (b.kd = 2 ∧ cur.size ≤ fr.1)) (hcm : cap ≤ maxLen) (hle : b.es.length ≤ cap) (hek : ∀ (i : Nat) (e : AV), b.es[i]? = some e → e.cells.length = b.k)
    (hc : ∀ (i : Nat) (e : AV) (j : Nat) (c : AV), b.es[i]? = some e → e.cells[j]? = some c → ∃ u, cur[i * b.k + j]? = some u ∧ u.oneCell' = true ∧ VR M w (if b.kd = 0 then ρ else []) c u) :
    HR base M (ρ ++ [some ⟨g, cap, b.k⟩]) (H ++ [some b]) w' := by
  have hM : ∀ g', M g' → w'.heap[g']? = w.heap[g']? := fun g' hg => old g' (hH.mlt g' hg) (fun e => hnM (e ▸ hg))
  have lt : ∀ {id : Nat} {L : Loc}, ρ[id]? = some (some L) → L.g < w.heap.size := fun h => by
    obtain ⟨b', hb'⟩ := hH.back h
    exact (hH.blk _ b' _ hb' h).lt
  refine { len := by simp [hH.len], dead := fun id => ?_, blk := fun id b' L hb' hL => ?_, inj := fun id id' L L' h1 h2 hne => ?_, mlt := fun g' hg => by have := hH.mlt g' hg; omega }
  · rw [getElem?_snoc, getElem?_snoc, hH.dead]
    simp
  · rcases (getElem?_snoc _ _ _ _).1 hb' with h1 | ⟨rfl, h1⟩
    · rcases (getElem?_snoc _ _ _ _).1 hL with h2 | ⟨h2, _⟩
      · have q := hH.blk id b' L h1 h2
        obtain ⟨cur', fr', a1, a2, a3, a4⟩ := q.cur
        exact { lo := q.lo, kk := q.kk, kp := q.kp, ro := q.ro, capm := q.capm, len := q.len, ek := q.ek,
                cur := ⟨cur', fr', by rw [old _ q.lt (hfree id L h2)]; exact a1, a2, a3, fun i e j c he hcc => by
                  obtain ⟨u, c1, c2, c3⟩ := a4 i e j c he hcc
                  refine ⟨u, c1, c2, ?_⟩
                  split
                  · rename_i hk0; rw [if_pos hk0] at c3; exact c3.mono (fun _ h => h) hM (Rle.append _ _)
                  · rename_i hk0; rw [if_neg hk0] at c3; exact c3.mono (fun _ h => h) hM (Rle.refl _)⟩ }
      · have := (List.getElem?_eq_some_iff.1 h1).1
        rw [hH.len] at this
        omega
    · cases h1
      have hL' : some L = some (⟨g, cap, b.k⟩ : Loc) := by
        rcases (getElem?_snoc _ _ _ _).1 hL with h2 | ⟨_, h2⟩
        · have := (List.getElem?_eq_some_iff.1 h2).1
          rw [← hH.len] at this
          omega
        · exact h2.symm
      cases hL'
      exact { lo := hb, kk := rfl, kp := hk, ro := ⟨fun h => absurd (hro.symm.trans h) (by simp), fun h => absurd h hnM⟩, capm := hcm, len := hle, ek := hek,
              cur := ⟨cur, fr, hp, hsz, hfr, fun i e j c he hcc => by
                obtain ⟨u, c1, c2, c3⟩ := hc i e j c he hcc
                refine ⟨u, c1, c2, ?_⟩
                split
                · rename_i hk0; rw [if_pos hk0] at c3; exact c3.mono (fun _ h => h) hM (Rle.append _ _)
                · rename_i hk0; rw [if_neg hk0] at c3; exact c3.mono (fun _ h => h) hM (Rle.refl _)⟩ }
  · rcases (getElem?_snoc _ _ _ _).1 h1 with a1 | ⟨a1, a2⟩ <;> rcases (getElem?_snoc _ _ _ _).1 h2 with b1 | ⟨b1, b2⟩
    · exact hH.inj id id' L L' a1 b1 hne
    · cases b2; exact hfree id L a1
    · cases a2; exact fun h => hfree id' L' b1 h.symm
    · omega
theorem Rle.kill (ρ : Rho) (id : Nat) : Rle ρ (ρ.set id none) := by
  intro id' o h
  rw [List.getElem?_set]
  by_cases hid : id = id'
  · subst hid
    rw [if_pos rfl, if_pos (List.getElem?_eq_some_iff.1 h).1]
    exact .inr rfl
  · rw [if_neg hid]; exact .inl h
/-- A name given up. -/
theorem HR.kill {H : Hp} (hH : HR base M ρ H w) (id : Nat) : HR base M (ρ.set id none) (H.set id none) w := by
  refine { len := by simp [hH.len], dead := fun id' => ?_, blk := fun id' b L hb hL => ?_, inj := fun a b L L' h1 h2 hne => ?_, mlt := hH.mlt }
  · rw [List.getElem?_set, List.getElem?_set]
    by_cases hid : id = id'
    · subst hid
      rw [if_pos rfl, if_pos rfl, hH.len]
      by_cases hl : id < ρ.length <;> simp [hl]
    · rw [if_neg hid, if_neg hid]; exact hH.dead id'
  · rw [List.getElem?_set] at hb hL
    by_cases hid : id = id'
    · rw [if_pos hid] at hb; split at hb <;> cases hb
    · rw [if_neg hid] at hb hL
      have q := hH.blk id' b L hb hL
      obtain ⟨cur, fr, a1, a2, a3, a4⟩ := q.cur
      exact { lo := q.lo, kk := q.kk, kp := q.kp, ro := q.ro, capm := q.capm, len := q.len, ek := q.ek,
              cur := ⟨cur, fr, a1, a2, a3, fun i e j c he hc => by
                obtain ⟨u, c1, c2, c3⟩ := a4 i e j c he hc
                refine ⟨u, c1, c2, ?_⟩
                split
                · rename_i hk0; rw [if_pos hk0] at c3; exact c3.mono (fun _ h => h) (fun _ _ => rfl) (Rle.kill _ _)
                · rename_i hk0; rw [if_neg hk0] at c3; exact c3⟩ }
  · rw [List.getElem?_set] at h1 h2
    split at h1
    · split at h1 <;> cases h1
    · split at h2
      · split at h2 <;> cases h2
      · exact hH.inj a b L L' h1 h2 hne
theorem kill_some {H : Hp} {id id' : Nat} {b : Blk} (h : (H.set id none)[id']? = some (some b)) : id' ≠ id ∧ H[id']? = some (some b) := by
  rw [List.getElem?_set] at h
  by_cases hid : id = id'
  · rw [if_pos hid] at h; split at h <;> cases h
  · rw [if_neg hid] at h; exact ⟨fun e => hid e.symm, h⟩
theorem killρ_some {ρ : Rho} {id id' : Nat} {L : Loc} (h : (ρ.set id none)[id']? = some (some L)) : id' ≠ id ∧ ρ[id']? = some (some L) := by
  rw [List.getElem?_set] at h
  by_cases hid : id = id'
  · rw [if_pos hid] at h; split at h <;> cases h
  · rw [if_neg hid] at h; exact ⟨fun e => hid e.symm, h⟩
-- ---------------------------------------------------------------- appends
theorem run_append_empty {t ty e : TypeId} {i : TypeInfo} (ht : P.underlying t = some (.slice e)) (hi : P.info? e = some i) (A B : Option Addr) (n c c' : Nat) (hn : n ≤ c) :
    (Builtin.append_ #[t, t] ty #[.slice A n c, .slice B 0 c']).run P w = .ok (.slice A n c) w := by
  cases A <;> cases B <;> simp [Builtin.append_, run_und ht, sizeOf, typeInfo, hi, Builtin.lenOf, hn, Builtin.firstCells, loadCells, loadCellsFrom, storeCells]
/-- A row's cells, in a list. -/
theorem row_cells {b o k : Nat} {xs : List AV} (hk : 0 < k) (h : ∀ (i : Nat) (e : AV), xs[i]? = some e → e.cells.length = k ∧ CA M w [] b (o + i * k) e.cells) :
    ∃ news : List Value, news.length = xs.length * k ∧ (∀ (j : Nat) (u : Value), news[j]? = some u → w.cell? ⟨b, o + j, none⟩ = some u ∧ u.oneCell' = true) ∧
      ∀ (i : Nat) (e : AV) (j : Nat) (c : AV), xs[i]? = some e → e.cells[j]? = some c → ∃ u, news[i * k + j]? = some u ∧ u.oneCell' = true ∧ VR M w [] c u := by
  have cell : ∀ j, j < xs.length * k → ∃ u, w.cell? ⟨b, o + j, none⟩ = some u ∧ u.oneCell' = true := by
    intro j hj
    have hi : j / k < xs.length := (Nat.div_lt_iff_lt_mul hk).2 hj
    obtain ⟨h1, h2⟩ := h (j / k) _ (List.getElem?_eq_getElem hi)
    have hjk : j % k < (xs[j / k]).cells.length := by rw [h1]; exact Nat.mod_lt _ hk
    obtain ⟨u, a1, a2, _⟩ := h2 (j % k) _ (List.getElem?_eq_getElem hjk)
    refine ⟨u, ?_, a2⟩
    have : j / k * k + j % k = j := by rw [Nat.mul_comm]; exact Nat.div_add_mod j k
    rw [Nat.add_assoc, this] at a1
    exact a1
  refine ⟨(List.range (xs.length * k)).map fun j => (w.cell? ⟨b, o + j, none⟩).getD undef, by simp, fun j u hj => ?_, fun i e j c he hc => ?_⟩
  · rw [List.getElem?_map] at hj
    cases hr : (List.range (xs.length * k))[j]? with
    | none => rw [hr] at hj; cases hj
    | some j' =>
      have hlt := (List.getElem?_eq_some_iff.1 hr).1
      rw [List.getElem?_range (by simpa using hlt)] at hr
      cases hr
      rw [List.getElem?_range (by simpa using hlt)] at hj
      cases hj
      obtain ⟨u, a1, a2⟩ := cell j (by simpa using hlt)
      show _ = some ((w.cell? ⟨b, o + j, none⟩).getD undef) ∧ ((w.cell? ⟨b, o + j, none⟩).getD undef).oneCell' = true
      rw [a1]
      exact ⟨rfl, a2⟩
  · obtain ⟨h1, h2⟩ := h i e he
    obtain ⟨u, a1, a2, a3⟩ := h2 j c hc
    refine ⟨u, ?_, a2, a3⟩
    have hi : i < xs.length := (List.getElem?_eq_some_iff.1 he).1
    have hj : j < k := by rw [← h1]; exact (List.getElem?_eq_some_iff.1 hc).1
    have hlt : i * k + j < xs.length * k := by
      have : (i + 1) * k ≤ xs.length * k := Nat.mul_le_mul_right k hi
      rw [Nat.add_mul] at this
      omega
    rw [List.getElem?_map, List.getElem?_range hlt, Option.map_some, ← Nat.add_assoc, a1]
    rfl
theorem append_cells {k : Nat} {xs ys : List AV} {us vs : List Value} (hl : us.length = xs.length * k) (hx : ∀ (i : Nat) (e : AV) (j : Nat) (c : AV), xs[i]? = some e → e.cells[j]? = some c → ∃ u, us[i * k + j]? = some u ∧ u.oneCell' = true ∧ VR M w [] c u)
    (hy : ∀ (i : Nat) (e : AV) (j : Nat) (c : AV), ys[i]? = some e → e.cells[j]? = some c → ∃ u, vs[i * k + j]? = some u ∧ u.oneCell' = true ∧ VR M w [] c u) :
    ∀ (i : Nat) (e : AV) (j : Nat) (c : AV), (xs ++ ys)[i]? = some e → e.cells[j]? = some c → ∃ u, (us ++ vs)[i * k + j]? = some u ∧ u.oneCell' = true ∧ VR M w [] c u := by
  intro i e j c he hc
  by_cases hi : i < xs.length
  · rw [List.getElem?_append_left hi] at he
    obtain ⟨u, a1, a2, a3⟩ := hx i e j c he hc
    exact ⟨u, by rw [List.getElem?_append_left (List.getElem?_eq_some_iff.1 a1).1]; exact a1, a2, a3⟩
  · rw [List.getElem?_append_right (by omega)] at he
    obtain ⟨u, a1, a2, a3⟩ := hy _ e j c he hc
    have hge : xs.length * k ≤ i * k := Nat.mul_le_mul_right k (by omega)
    refine ⟨u, ?_, a2, a3⟩
    rw [List.getElem?_append_right (by omega), hl]
    rw [Nat.sub_mul] at a1
    rwa [show i * k + j - xs.length * k = i * k - xs.length * k + j by omega]
/-- What a full operation owes. -/
def Does (P : Program) (base : Nat) (M : Nat → Prop) (ρ : Rho) (H : Hp) (w : World) (S : Sem Value) (av : AV) (H' : Hp) : Prop :=
  ∃ v w' M' ρ', S.run P w = .ok v w' ∧ HR base M' ρ' H' w' ∧ Ext M ρ H w M' ρ' H' w' ∧ VR M' w' ρ' av v
theorem setRow_world (w : World) (g : Nat) (cs : Array Value) : (w.setRow g cs).os = w.os ∧ (w.setRow g cs).tape = w.tape ∧ (w.setRow g cs).output = w.output ∧ (w.setRow g cs).heap.size = w.heap.size := by
  refine ⟨rfl, rfl, rfl, ?_⟩
  simp [World.setRow]
theorem append_sound {H : Hp} (hH : HR base M ρ H w) (hB : base ≤ w.heap.size) {t ty e : TypeId} {i : TypeInfo} {z : Value} (ht : P.underlying t = some (.slice e)) (hi : P.info? e = some i) (hz : i.zero = some z) (hzs : z.cells.size = i.size) (hk0 : 0 < i.size)
    {A X r : AV} {va vx : Value} {H' : Hp} (ha : VR M w ρ A va) (hx : VR M w ρ X vx) (h : appendA H e i.size i.bytes A X = some (r, H')) : Does P base M ρ H w (Builtin.append_ #[t, t] ty #[va, vx]) r H' := by
  unfold appendA at h
  cases hq : rowElems H X with
  | none => rw [hq] at h; cases h
  | some q =>
    obtain ⟨k', xs⟩ := q
    rw [hq] at h
    obtain ⟨Bx, cx, rfl, hrow⟩ := row_read hH hx hq
    simp only [appendL] at h
    split at h
    · rename_i he
      have hnil : xs = [] := by simpa using he
      subst hnil
      unfold appendN at h
      split at h
      · cases h
        obtain rfl := vr_v ha
        exact ⟨_, w, M, ρ, run_append_empty ht hi none Bx 0 0 cx (Nat.le_refl _), hH, Ext.refl _ _ _ _, .v⟩
      · rename_i id n
        cases hb : hget H id with
        | none => rw [hb] at h; cases h
        | some b =>
          rw [hb] at h
          cases h
          obtain ⟨L, Aa, c, hL, h1, h2, hA, rfl⟩ := live_sl hH ha hb
          exact ⟨_, w, M, ρ, run_append_empty ht hi Aa Bx n c cx h2, hH, Ext.refl _ _ _ _, ha⟩
      · cases h
    · rename_i he
      have hne : xs ≠ [] := fun hn => he (by simp [hn])
      have hm0 : 0 < xs.length := List.length_pos_iff.2 hne
      split at h
      · cases h
      · rename_i hkk
        have hkk : k' = i.size := Classical.not_not.1 hkk
        subst hkk
        obtain ⟨ax, rfl, hsx, hall⟩ := hrow hne
        obtain ⟨news, hnl, hnc, hnr⟩ := row_cells hk0 hall
        have hadd : ∀ j u, news[j]? = some u → w.cell? (ax.add j) = some u := fun j u hu => by rw [add_spot hsx]; exact (hnc j u hu).1
        have hone : ∀ u ∈ news, u.oneCell' = true := fun u hu => by obtain ⟨j, hj⟩ := List.getElem?_of_mem hu; exact (hnc j u hj).2
        unfold appendM at h
        split at h
        · split at h
          · rename_i hbd
            cases h
            obtain rfl := vr_v ha
            have hrun := run_append_nil (P := P) w t ty e i z ht hi hz ax xs.length cx news hnl hadd hm0 (by omega) (by omega)
            have hge := grownCap_ge w xs.length 0 e
            have hcl : grownCap w xs.length 0 e ≤ maxLen := grownCap_le_maxLen w xs.length 0 e (by unfold maxLen; omega)
            have hcs : (news.toArray ++ Builtin.zeroCells z.cells (grownCap w xs.length 0 e - xs.length)).size = grownCap w xs.length 0 e * i.size := by
              simp only [Array.size_append, List.size_toArray, size_zeroCells, hzs, hnl, ← Nat.add_mul]
              congr 1
              omega
            obtain ⟨p1, p2⟩ := HR.push (w' := w.drew.alloc (.cells (news.toArray ++ Builtin.zeroCells z.cells (grownCap w xs.length 0 e - xs.length)) e)) (fr := (0, 0)) (b := ⟨e, i.size, 1, false, xs⟩) (cap := grownCap w xs.length 0 e)
              hH hB rfl rfl rfl rfl hcs hk0 rfl (.inl rfl) hcl hge (fun x el hx => (hall x el hx).1) (fun x el j c hx hc => by
                obtain ⟨u, c1, c2, c3⟩ := hnr x el j c hx hc
                refine ⟨u, ?_, c2, c3⟩
                have hlt := (List.getElem?_eq_some_iff.1 c1).1
                rw [Array.getElem?_append_left (by simpa using hlt)]
                simpa using c1)
            refine ⟨_, _, _, _, hrun, p1, p2, ?_⟩
            have := VR.sl (M := M) (w := w.drew.alloc (.cells (news.toArray ++ Builtin.zeroCells z.cells (grownCap w xs.length 0 e - xs.length)) e)) (ρ := ρ ++ [some ⟨w.heap.size, grownCap w xs.length 0 e, i.size⟩]) (id := H.length) (off := 0) (len := xs.length) (c := grownCap w xs.length 0 e)
              (A := some ⟨w.heap.size, 0, none⟩) _ (push_ref hH _) (Nat.zero_add _) hge (.inr (by simp))
            exact this
          · cases h
        · rename_i id n
          cases hb : hget H id with
          | none => rw [hb] at h; cases h
          | some b =>
            rw [hb] at h
            simp only [appendO] at h
            split at h
            · rename_i hcd
              obtain ⟨hkd, hro, hty, hbk, hnl', hbd1, hbd2⟩ := hcd
              cases h
              have hb' := hget_some hb
              obtain ⟨L, Aa, c, hL, h1, h2, hA, rfl⟩ := live_sl hH ha hb
              have hA' : Aa = some ⟨L.g, 0, none⟩ := by
                rcases hA with hA | hA
                · exact absurd rfl hA.1
                · rw [hA]; simp
              subst hA'
              have hLc : c = L.cap := by omega
              subst hLc
              have q := hH.blk id b L hb' hL
              obtain ⟨cur, fr, a1, a2, a3, a4⟩ := q.cur
              have hfr : fr = (0, 0) := by
                rcases a3 with a3 | a3
                · exact a3
                · omega
              subst hfr
              rw [hty] at a1
              rw [hbk] at a2 a4
              have hnM := hH.notM (⟨id, b, L, hb', hro, hL, rfl⟩ : Wr ρ H L.g)
              have hkill := hH.kill id
              have hfree : ∀ (id' : Nat) (L' : Loc), (ρ.set id none)[id']? = some (some L') → L'.g ≠ L.g := fun id' L' h' => by
                obtain ⟨e1, e2⟩ := killρ_some h'
                exact hH.inj id' id L' L e2 hL e1
              have hoc : ∀ (x : Nat) (el : AV) (j : Nat) (cc : AV), (b.es.take n)[x]? = some el → el.cells[j]? = some cc → ∃ u, (cur.toList.take (n * i.size))[x * i.size + j]? = some u ∧ u.oneCell' = true ∧ VR M w [] cc u := by
                intro x el j cc hx hc
                rw [List.getElem?_take] at hx
                split at hx
                · rename_i hxn
                  obtain ⟨u, c1, c2, c3⟩ := a4 x el j cc hx hc
                  rw [if_neg (by omega)] at c3
                  refine ⟨u, ?_, c2, c3⟩
                  have hj : j < i.size := by rw [← hbk, ← q.ek x el hx]; exact (List.getElem?_eq_some_iff.1 hc).1
                  have hlt : x * i.size + j < n * i.size := by
                    have : (x + 1) * i.size ≤ n * i.size := Nat.mul_le_mul_right _ hxn
                    rw [Nat.add_mul] at this
                    omega
                  rw [List.getElem?_take, if_pos hlt]
                  simpa using c1
                · cases hx
              have hnc : n ≤ L.cap := h2
              have htl : (cur.toList.take (n * i.size)).length = (b.es.take n).length * i.size := by
                have : n * i.size ≤ L.cap * i.size := Nat.mul_le_mul_right _ hnc
                simp only [List.length_take, Array.length_toList, a2]
                rw [Nat.min_eq_left this, Nat.min_eq_left hnl']
              have hcells := append_cells (k := i.size) htl hoc hnr
              have hek : ∀ (x : Nat) (el : AV), (b.es.take n ++ xs)[x]? = some el → el.cells.length = i.size := by
                intro x el hx
                by_cases hxl : x < (b.es.take n).length
                · rw [List.getElem?_append_left hxl, List.getElem?_take] at hx
                  split at hx
                  · rw [q.ek x el hx, hbk]
                  · cases hx
                · rw [List.getElem?_append_right (by omega)] at hx
                  exact (hall _ el hx).1
              have hlen2 : (b.es.take n ++ xs).length = n + xs.length := by simp; omega
              by_cases hroom : n + xs.length ≤ L.cap
              · have hfit : n * i.size + news.length ≤ cur.size := by rw [hnl, a2, ← Nat.add_mul]; exact Nat.mul_le_mul_right _ hroom
                have hrun := run_append_room (P := P) w t ty e i ht hi L.g n L.cap cur a1 ax xs.length cx news hnl hadd hone hroom hfit
                obtain ⟨s1, s2, s3, s4⟩ := setRow_world w L.g (cur.toList.take (n * i.size) ++ news ++ cur.toList.drop (n * i.size + news.length)).toArray
                have hnew : (w.setRow L.g (cur.toList.take (n * i.size) ++ news ++ cur.toList.drop (n * i.size + news.length)).toArray).heap[L.g]? = some (.cells (cur.toList.take (n * i.size) ++ news ++ cur.toList.drop (n * i.size + news.length)).toArray e (0, 0)) := setRow_heap w L.g cur _ e (0, 0) a1
                have old : ∀ g', g' < w.heap.size → g' ≠ L.g → (w.setRow L.g (cur.toList.take (n * i.size) ++ news ++ cur.toList.drop (n * i.size + news.length)).toArray).heap[g']? = w.heap[g']? := fun g' _ hne => setRow_other w L.g g' _ hne
                have p1 := HR.place (w' := w.setRow L.g (cur.toList.take (n * i.size) ++ news ++ cur.toList.drop (n * i.size + news.length)).toArray) (b := ⟨e, i.size, 1, false, b.es.take n ++ xs⟩) (cap := L.cap) (fr := (0, 0)) hkill q.lo hnM hfree (by omega) old hnew
                  (by simp only [List.size_toArray, List.length_append, List.length_take, List.length_drop, Array.length_toList]; omega) hk0 rfl (.inl rfl) q.capm (by rw [hlen2]; exact hroom) hek
                  (fun x el j cc hx hc => by
                    obtain ⟨u, c1, c2, c3⟩ := hcells x el j cc hx hc
                    refine ⟨u, ?_, c2, c3⟩
                    have hlt := (List.getElem?_eq_some_iff.1 c1).1
                    simp only [List.getElem?_toArray]
                    rw [List.getElem?_append_left hlt]
                    exact c1)
                refine ⟨_, _, _, _, hrun, p1, ⟨s1, s2, s3, by omega, fun g' hg hn => old g' hg (fun e => hn (e ▸ ⟨id, b, L, hb', hro, hL, rfl⟩)), fun _ h => h, fun _ h => .inl h, fun g' hg => ?_, (Rle.kill ρ id).trans (Rle.append _ _)⟩, ?_⟩
                · obtain ⟨id', b', L', e1, e2, e3, rfl⟩ := hg
                  rcases (getElem?_snoc _ _ _ _).1 e3 with f3 | ⟨f3, f4⟩
                  · obtain ⟨g1, g2⟩ := killρ_some f3
                    rcases (getElem?_snoc _ _ _ _).1 e1 with f1 | ⟨f1, _⟩
                    · exact .inl ⟨id', b', L', (kill_some f1).2, e2, g2, rfl⟩
                    · have := (List.getElem?_eq_some_iff.1 g2).1
                      rw [← hH.len] at this
                      simp at f1
                      omega
                  · cases f4
                    exact .inl ⟨id, b, L, hb', hro, hL, rfl⟩
                · have hlen3 : (H.set id none).length = H.length := by simp
                  have hr := push_ref hkill (⟨L.g, L.cap, i.size⟩ : Loc)
                  rw [hlen3] at hr
                  exact VR.sl (A := some ⟨L.g, 0, none⟩) _ hr (Nat.zero_add _) hroom (.inr (by simp))
              · have holds : ∀ j u, (cur.toList.take (n * i.size))[j]? = some u → w.cell? ((⟨L.g, 0, none⟩ : Addr).add j) = some u := by
                  intro j u hu
                  rw [add_none, Nat.zero_add, cell_of_row w L.g j cur e (0, 0) a1]
                  rw [List.getElem?_take] at hu
                  split at hu
                  · simpa using hu
                  · cases hu
                have hlo : (cur.toList.take (n * i.size)).length = n * i.size := by rw [htl]; simp; rw [Nat.min_eq_left hnl']
                have hrun := run_append_grow (P := P) w t ty e i z ht hi hz ⟨L.g, 0, none⟩ n L.cap (cur.toList.take (n * i.size)) hlo holds ax xs.length cx news hnl hadd (by omega) (by omega) (growslice_fits (by omega) (by omega))
                have hge := grownCap_ge w (n + xs.length) L.cap e
                have hcl : grownCap w (n + xs.length) L.cap e ≤ maxLen := grownCap_le_maxLen w _ _ e (by unfold maxLen; omega)
                have hnewlt : ∀ (id' : Nat) (L' : Loc), (ρ.set id none)[id']? = some (some L') → L'.g ≠ w.heap.size := fun id' L' h' => by
                  obtain ⟨b', hb2⟩ := hkill.back h'
                  have := (hkill.blk _ b' _ hb2 h').lt
                  omega
                have hcs : ((cur.toList.take (n * i.size)).toArray ++ news.toArray ++ Builtin.zeroCells z.cells (grownCap w (n + xs.length) L.cap e - (n + xs.length))).size = grownCap w (n + xs.length) L.cap e * i.size := by
                  simp only [Array.size_append, List.size_toArray, size_zeroCells, hzs, hnl, hlo, ← Nat.add_mul]
                  congr 1
                  omega
                obtain ⟨p1, p2⟩ := HR.push (w' := w.drew.alloc (.cells ((cur.toList.take (n * i.size)).toArray ++ news.toArray ++ Builtin.zeroCells z.cells (grownCap w (n + xs.length) L.cap e - (n + xs.length))) e)) (fr := (0, 0)) (b := ⟨e, i.size, 1, false, b.es.take n ++ xs⟩) (cap := grownCap w (n + xs.length) L.cap e)
                  hkill hB rfl rfl rfl rfl hcs hk0 rfl (.inl rfl) hcl (by rw [hlen2]; exact hge) hek (fun x el j cc hx hc => by
                    obtain ⟨u, c1, c2, c3⟩ := hcells x el j cc hx hc
                    refine ⟨u, ?_, c2, c3⟩
                    have hlt := (List.getElem?_eq_some_iff.1 c1).1
                    rw [Array.getElem?_append_left (by simpa using hlt), List.append_toArray]
                    simpa using c1)
                have hkw : ∀ g', Wr (ρ.set id none) (H.set id none) g' → Wr ρ H g' := by
                  rintro g' ⟨id', b', L', e1, e2, e3, rfl⟩
                  exact ⟨id', b', L', (kill_some e1).2, e2, (killρ_some e3).2, rfl⟩
                refine ⟨_, _, _, _, hrun, p1, ⟨p2.os, p2.tape, p2.output, p2.size, fun g' hg hn => p2.keep g' hg (fun hw => hn (hkw g' hw)), p2.mle, fun g' hg => (p2.mnew g' hg).imp (fun h => h) (Or.imp (hkw g') fun h => h), fun g' hg => (p2.wr g' hg).imp (hkw g') fun h => h, (Rle.kill ρ id).trans p2.rle⟩, ?_⟩
                have hlen3 : (H.set id none).length = H.length := by simp
                have hr := push_ref hkill (⟨w.heap.size, grownCap w (n + xs.length) L.cap e, i.size⟩ : Loc)
                rw [hlen3] at hr
                exact VR.sl (A := some ⟨w.heap.size, 0, none⟩) _ hr (Nat.zero_add _) hge (.inr (by simp))
            · cases h
        · cases h
end Go.Proofs.YtlmjoimjdpfamaaGreat.Ev
namespace Go.Proofs.YtlmjoimjdpfamaaGreat.Ev
variable {P : Program} {base : Nat} {M : Nat → Prop} {ρ : Rho} {w : World}
theorem elemOk_some {k : Nat} {a : AV} (h : elemOk k a = true) : a.cells.length = k ∧ allOne a.cells = true := by
  unfold elemOk at h
  simp only [Bool.and_eq_true, beq_iff_eq] at h
  exact h
theorem run_newVar (t : TypeId) (v : Value) (w : World) : (do pure (.pointer (some (← newVar t v))) : Sem Value).run P w = .ok (.pointer (some ⟨w.heap.size, 0, none⟩)) (w.alloc (.cells v.cells t)) := by
  simp [newVar, newRow]
theorem var_sound {H : Hp} (hH : HR base M ρ H w) (hB : base ≤ w.heap.size) {t : TypeId} {k : Nat} (hk : 0 < k) {e : AV} {v : Value} (hl : e.cells.length = k) (hrc : RC M w ρ e.cells v.cells.toList) :
    Does P base M ρ H w (do pure (.pointer (some (← newVar t v)))) (.ptr H.length 0 0) (H ++ [some ⟨t, k, 0, false, [e]⟩]) := by
  have hsz : v.cells.size = k := by have := hrc.len; simp at this; omega
  obtain ⟨p1, p2⟩ := HR.push (w' := w.alloc (.cells v.cells t)) (fr := (0, 0)) (b := ⟨t, k, 0, false, [e]⟩) (cap := 1) hH hB rfl rfl rfl rfl (by simp [hsz]) hk rfl (.inl rfl) (by unfold maxLen; omega) (by simp)
    (fun i x hx => by
      cases i with
      | zero => simp at hx; subst hx; exact hl
      | succ i => simp at hx)
    (fun i x j c hx hc => by
      cases i with
      | zero =>
        simp at hx
        subst hx
        have hj : j < v.cells.size := by rw [hsz, ← hl]; exact (List.getElem?_eq_some_iff.1 hc).1
        have hv : v.cells[j]? = some v.cells[j] := Array.getElem?_eq_getElem hj
        have hv' : v.cells.toList[j]? = some v.cells[j] := by rw [Array.getElem?_toList]; exact hv
        refine ⟨v.cells[j], by simpa using hv, hrc.one _ (List.mem_of_getElem? hv'), ?_⟩
        exact hrc.all j c _ hc hv'
      | succ i => simp at hx)
  refine ⟨_, _, _, _, run_newVar t v w, p1, p2, ?_⟩
  have := VR.ptr (M := M) (w := w.alloc (.cells v.cells t)) (i := 0) (j := 0) _ (push_ref hH (⟨w.heap.size, 1, k⟩ : Loc))
  simpa using this
theorem alloc_sound {H : Hp} (hH : HR base M ρ H w) (hB : base ≤ w.heap.size) {t : TypeId} {k : Nat} (hk : szOf P t = some k) {zs : List AV} (hz : zeroOf P t = some zs) :
    Does P base M ρ H w (Instr.alloc t true (.tuple #[])) (.ptr H.length 0 0) (H ++ [some ⟨t, k, 0, false, [.agg zs]⟩]) := by
  obtain ⟨i, hi, rfl, hk0⟩ := szOf_some hk
  obtain ⟨i', z, hi', hiz, hsz, rfl, hone⟩ := zeroOf_some hz
  rw [hi] at hi'
  cases hi'
  have hvals : RC M w ρ (z.cells.toList.map .v) z.cells.toList := RC.vals hone
  obtain ⟨v, w', M', ρ', h1, h2, h3, h4⟩ := var_sound (P := P) (t := t) hH hB hk0 (e := .agg (z.cells.toList.map .v)) (v := z) (by simp [AV.cells, hsz]) hvals
  refine ⟨v, w', M', ρ', ?_, h2, h3, h4⟩
  rw [← h1]
  simp [Instr.alloc, zeroValue, typeInfo, hi, hiz]
theorem box_sound {H : Hp} (hH : HR base M ρ H w) (hB : base ≤ w.heap.size) {t : TypeId} {k : Nat} (hk : szOf P t = some k) {A r : AV} {va : Value} (ha : VR M w ρ A va) {H' : Hp} (h : boxA t k H A = some (r, H')) :
    Does P base M ρ H w (Instr.box t va) r H' := by
  obtain ⟨i, hi, rfl, hk0⟩ := szOf_some hk
  unfold boxA at h
  split at h
  · rename_i hok
    cases h
    obtain ⟨h1, h2⟩ := elemOk_some hok
    exact var_sound hH hB hk0 h1 (RC.cells ha h2)
  · cases h
-- ---------------------------------------------------------------- stores
theorem setCells_heap (g : Nat) (t : TypeId) (fr : Nat × Nat) : ∀ (vs : List Value) (o : Nat) (w : World) (cur : Array Value), w.heap[g]? = some (.cells cur t fr) → o + vs.length ≤ cur.size →
    ∃ cur', (w.setCells g o vs).heap[g]? = some (.cells cur' t fr) ∧ cur'.toList = cur.toList.take o ++ vs ++ cur.toList.drop (o + vs.length) ∧ (∀ g', g' ≠ g → (w.setCells g o vs).heap[g']? = w.heap[g']?) ∧
      (w.setCells g o vs).os = w.os ∧ (w.setCells g o vs).tape = w.tape ∧ (w.setCells g o vs).output = w.output ∧ (w.setCells g o vs).heap.size = w.heap.size
  | [], o, w, cur, h, _ => ⟨cur, h, by simp, fun _ _ => rfl, rfl, rfl, rfl, rfl⟩
  | v :: vs, o, w, cur, h, hl => by
    simp only [List.length_cons] at hl
    have h1 : (w.setCell ⟨g, o, none⟩ v).heap[g]? = some (.cells (cur.setIfInBounds o v) t fr) := by
      simp only [World.setCell, Array.getElem?_modify, if_true, h, Option.map_some]
      rfl
    obtain ⟨cur', a1, a2, a3, a4, a5, a6, a7⟩ := setCells_heap g t fr vs (o + 1) (w.setCell ⟨g, o, none⟩ v) (cur.setIfInBounds o v) h1 (by simp; omega)
    refine ⟨cur', a1, ?_, fun g' hg => ?_, a4, a5, a6, ?_⟩
    · rw [a2]
      simp only [Array.toList_setIfInBounds, List.length_cons]
      have hlt : o < cur.toList.length := by simp; omega
      rw [List.take_succ_eq_append_getElem (by simpa using hlt), List.drop_set_of_lt (by omega), List.take_set_of_le (Nat.le_refl _), show o + 1 + vs.length = o + (vs.length + 1) by omega]
      simp
    · rw [show w.setCells g o (v :: vs) = (w.setCell ⟨g, o, none⟩ v).setCells g (o + 1) vs from rfl, a3 g' hg]
      exact RowKit.Below.heap_setCell w ⟨g, o, none⟩ v g' hg
    · rw [show w.setCells g o (v :: vs) = (w.setCell ⟨g, o, none⟩ v).setCells g (o + 1) vs from rfl, a7]
      simp [World.setCell]
theorem partsOf_some {k : Nat} {ag : Bool} {a : AV} {cs : List AV} (h : partsOf k ag a = some cs) : cs.length = k ∧ allOne cs = true ∧ ∀ {M : Nat → Prop} {w : World} {ρ : Rho} {v : Value}, VR M w ρ a v → RC M w ρ cs v.cells.toList := by
  unfold partsOf at h
  split at h
  · rename_i cs'
    split at h
    · rename_i hc
      cases h
      exact ⟨hc.1, hc.2, fun hv => RC.cells hv (by simpa [AV.cells] using hc.2)⟩
    · cases h
  · split at h
    · rename_i hc
      cases h
      refine ⟨by simpa using hc.1.symm, by simp [allOne, hc.2], fun {M w ρ v} hv => ?_⟩
      have hcells : a.cells = [a] := by cases a <;> first | rfl | (simp [AV.one] at hc; done)
      have := RC.cells hv (by rw [hcells]; simp [allOne, hc.2])
      rwa [hcells] at this
    · cases h
  · cases h
theorem putE_cells {e : AV} {j : Nat} {cs : List AV} (hl : j + cs.length ≤ e.cells.length) (h0 : 0 < cs.length) (ho : allOne cs = true) : (putE e j cs).cells = e.cells.take j ++ cs ++ e.cells.drop (j + cs.length) := by
  have single : e.cells = [e] → (∀ x, e ≠ .agg x) → (putE e j cs).cells = e.cells.take j ++ cs ++ e.cells.drop (j + cs.length) := by
    intro he hne
    rw [he] at hl ⊢
    simp at hl
    match cs, h0, hl, ho with
    | [c], _, hl, ho =>
      have hj : j = 0 := by simp at hl; omega
      subst hj
      have hc : c.cells = [c] := by
        simp [allOne] at ho
        cases c <;> first | rfl | (simp [AV.one] at ho; done)
      have : putE e 0 [c] = c := by cases e <;> first | rfl | exact absurd rfl (hne _)
      rw [this, hc]
      simp
    | c :: d :: r, _, hl, _ => simp only [List.length_cons] at hl; omega
  cases e with
  | agg x => rfl
  | _ => exact single rfl (fun x h => by cases h)
theorem elem_apart {i i' k j j' n : Nat} (h : i' ≠ i) (hj : j' < k) (hn : j + n ≤ k) : i' * k + j' < i * k + j ∨ i * k + j + n ≤ i' * k + j' := by
  rcases Nat.lt_or_gt_of_ne h with h | h
  · have := Nat.mul_le_mul_right k (show i' + 1 ≤ i from h)
    rw [Nat.add_mul] at this
    omega
  · have := Nat.mul_le_mul_right k (show i + 1 ≤ i' from h)
    rw [Nat.add_mul] at this
    omega
theorem storeV_hr {H : Hp} (hH : HR base M ρ H w) {id : Nat} {b : Blk} (hb : H[id]? = some (some b)) {L : Loc} (hL : ρ[id]? = some (some L)) (hro : b.ro = false) {i : Nat} {e : AV} (he : b.es[i]? = some e) {j : Nat} {cs : List AV} {vs : List Value}
    (hrc : RC M w (if b.kd = 0 then ρ else []) cs vs) (hl : j + cs.length ≤ e.cells.length) (h0 : 0 < cs.length) (ho : allOne cs = true) :
    HR base M ρ (H.set id (some { b with es := b.es.set i (putE e j cs) })) (w.setCells L.g (i * L.k + j) vs) ∧ Ext M ρ H w M ρ (H.set id (some { b with es := b.es.set i (putE e j cs) })) (w.setCells L.g (i * L.k + j) vs) ∧
      (∀ x, x < vs.length → (w.cell? ⟨L.g, i * L.k + j + x, none⟩).isSome = true) ∧ ∀ x, x < vs.length → w.frozen? ⟨L.g, i * L.k + j + x, none⟩ = false := by
  have q := hH.blk id b L hb hL
  obtain ⟨cur, fr, a1, a2, a3, a4⟩ := q.cur
  have hek := q.ek i e he
  have hi : i < b.es.length := (List.getElem?_eq_some_iff.1 he).1
  have hvl := hrc.len
  have hmul : (i + 1) * b.k ≤ L.cap * b.k := Nat.mul_le_mul_right _ (by have := q.len; omega)
  rw [Nat.add_mul, Nat.one_mul] at hmul
  have hfit : i * L.k + j + vs.length ≤ cur.size := by rw [q.kk, a2]; omega
  obtain ⟨cur', c1, c2, c3, c4, c5, c6, c7⟩ := setCells_heap L.g b.ty fr vs (i * L.k + j) w cur a1 hfit
  have hcs' : cur'.size = cur.size := by
    have := congrArg List.length c2
    simp at this
    omega
  have hnM := hH.notM (⟨id, b, L, hb, hro, hL, rfl⟩ : Wr ρ H L.g)
  have hM : ∀ g, M g → (w.setCells L.g (i * L.k + j) vs).heap[g]? = w.heap[g]? := fun g hg => c3 g (fun e => hnM (e ▸ hg))
  have hput := putE_cells hl h0 ho
  have hput_len : (putE e j cs).cells.length = b.k := by rw [hput]; simp; omega
  have atcur : ∀ x, cur'[x]? = if x < i * L.k + j then cur[x]? else if x < i * L.k + j + vs.length then vs[x - (i * L.k + j)]? else cur[x]? := by
    intro x
    rw [← Array.getElem?_toList, c2, getElem?_splice cur.toList vs _ (by simpa using hfit)]
    simp
  rw [q.kk] at atcur
  have hset : ∀ id', (H.set id (some { b with es := b.es.set i (putE e j cs) }))[id']? = if id = id' then some (some { b with es := b.es.set i (putE e j cs) }) else H[id']? := by
    intro id'
    rw [List.getElem?_set]
    by_cases h : id = id'
    · rw [if_pos h, if_pos h, if_pos (List.getElem?_eq_some_iff.1 hb).1]
    · rw [if_neg h, if_neg h]
  refine ⟨{ len := by simp [hH.len], dead := fun id' => ?_, blk := fun id' b' L' hb' hL' => ?_, inj := hH.inj, mlt := fun g hg => by rw [c7]; exact hH.mlt g hg }, ⟨c4, c5, c6, by omega, fun g hg hn => c3 g (fun e => hn (e ▸ ⟨id, b, L, hb, hro, hL, rfl⟩)), fun _ h => h, fun _ h => .inl h, fun g hg => ?_, Rle.refl _⟩, fun x hx => ?_, fun x hx => ?_⟩
  · rw [hset]
    by_cases h : id = id'
    · subst h
      rw [if_pos rfl, hL]
      simp
    · rw [if_neg h]; exact hH.dead id'
  · rw [hset] at hb'
    by_cases h : id = id'
    · subst h
      rw [if_pos rfl] at hb'
      cases hb'
      rw [hL] at hL'
      cases hL'
      refine { lo := q.lo, kk := q.kk, kp := q.kp, ro := q.ro, capm := q.capm, len := by simpa using q.len, ek := fun x y hx => ?_, cur := ⟨cur', fr, c1, by rw [hcs', a2], ?_, fun x y z c hx hc => ?_⟩ }
      · rcases a3 with a3 | a3
        · exact .inl a3
        · exact .inr (by rw [hcs']; exact a3)
      · simp only at hx
        rw [List.getElem?_set] at hx
        simp only
        rw [atcur]
        by_cases hxi : i = x
        · subst hxi
          rw [if_pos rfl, if_pos hi] at hx
          cases hx
          rw [hput, getElem?_splice e.cells cs j hl] at hc
          by_cases hz1 : z < j
          · rw [if_pos hz1] at hc
            rw [if_pos (by omega)]
            obtain ⟨u, d1, d2, d3⟩ := a4 i e z c he hc
            exact ⟨u, d1, d2, d3.mono (fun _ h => h) hM (Rle.refl _)⟩
          · rw [if_neg hz1] at hc
            rw [if_neg (by omega)]
            by_cases hz2 : z < j + cs.length
            · rw [if_pos hz2] at hc
              rw [if_pos (by omega)]
              obtain ⟨u, hu⟩ := get_of_len hvl.symm hc
              have hidx : i * b.k + z - (i * b.k + j) = z - j := by omega
              rw [hidx]
              exact ⟨u, hu, hrc.one u (List.mem_of_getElem? hu), (hrc.all _ c u hc hu).mono (fun _ h => h) hM (Rle.refl _)⟩
            · rw [if_neg hz2] at hc
              rw [if_neg (by omega)]
              obtain ⟨u, d1, d2, d3⟩ := a4 i e z c he hc
              exact ⟨u, d1, d2, d3.mono (fun _ h => h) hM (Rle.refl _)⟩
        · rw [if_neg hxi] at hx
          obtain ⟨u, d1, d2, d3⟩ := a4 x y z c hx hc
          have hzk : z < b.k := by rw [← q.ek x y hx]; exact (List.getElem?_eq_some_iff.1 hc).1
          have hap := elem_apart (i := i) (i' := x) (k := b.k) (j := j) (j' := z) (n := vs.length) (fun e => hxi e.symm) hzk (by omega)
          refine ⟨u, ?_, d2, d3.mono (fun _ h => h) hM (Rle.refl _)⟩
          rcases hap with hap | hap
          · rw [if_pos hap]; exact d1
          · rw [if_neg (by omega), if_neg (by omega)]; exact d1
      · simp only at hx
        rw [List.getElem?_set] at hx
        by_cases hxi : i = x
        · rw [if_pos hxi, if_pos hi] at hx
          cases hx
          exact hput_len
        · rw [if_neg hxi] at hx; exact q.ek x y hx
    · rw [if_neg h] at hb'
      have q' := hH.blk id' b' L' hb' hL'
      obtain ⟨cur2, fr2, b1, b2, b3, b4⟩ := q'.cur
      exact { lo := q'.lo, kk := q'.kk, kp := q'.kp, ro := q'.ro, capm := q'.capm, len := q'.len, ek := q'.ek,
              cur := ⟨cur2, fr2, by rw [c3 _ (hH.inj id' id L' L hL' hL (fun e => h e.symm))]; exact b1, b2, b3, fun x y z c hx hc =>
                let ⟨u, d1, d2, d3⟩ := b4 x y z c hx hc; ⟨u, d1, d2, d3.mono (fun _ h => h) hM (Rle.refl _)⟩⟩ }
  · obtain ⟨id', b', L', e1, e2, e3, rfl⟩ := hg
    rw [hset] at e1
    by_cases h : id = id'
    · subst h
      rw [if_pos rfl] at e1
      cases e1
      exact .inl ⟨id, b, L', hb, hro, e3, rfl⟩
    · rw [if_neg h] at e1
      exact .inl ⟨id', b', L', e1, e2, e3, rfl⟩
  · rw [cell_of_row w L.g _ cur b.ty fr a1, Array.getElem?_eq_getElem (by omega)]
    rfl
  · simp only [World.frozen?, a1]
    rcases a3 with a3 | a3
    · subst a3; simp
    · simp; omega
/-- What a store owes. -/
def DoesU (P : Program) (base : Nat) (M : Nat → Prop) (ρ : Rho) (H : Hp) (w : World) (S : Sem Unit) (H' : Hp) : Prop :=
  ∃ w' M' ρ', S.run P w = .ok () w' ∧ HR base M' ρ' H' w' ∧ Ext M ρ H w M' ρ' H' w'
theorem run_storeVar {t : TypeId} {i : TypeInfo} (hi : P.info? t = some i) {g o : Nat} {v : Value} (hs : v.cells.size = i.size) (hc : ∀ x, x < v.cells.toList.length → (w.cell? ⟨g, o + x, none⟩).isSome = true)
    (hf : ∀ x, x < v.cells.toList.length → w.frozen? ⟨g, o + x, none⟩ = false) (h1 : ∀ u ∈ v.cells.toList, u.oneCell' = true) : (storeVar t ⟨g, o, none⟩ v).run P w = .ok () (w.setCells g o v.cells.toList) := by
  have hst := run_storeCells_cells (P := P) g o v.cells.toList 0 w (by simpa using hc) (by simpa using hf) h1
  have hn : ¬ v.cells.size ≠ i.size := fun h => h hs
  unfold storeVar
  rw [Sem.run_bind, run_size hi, Result.andThen_ok]
  simp only [hn, if_false]
  exact hst
theorem store_sound {H : Hp} (hH : HR base M ρ H w) {t : TypeId} {k : Nat} (hk : szOf P t = some k) {ag : Bool} {p A : AV} {pv va : Value} (hp : VR M w ρ p pv) (ha : VR M w ρ A va) {H' : Hp} (h : storeA H k ag p A = some H') :
    DoesU P base M ρ H w (Instr.storeAt t pv va) H' := by
  obtain ⟨i, hi, rfl, hk0⟩ := szOf_some hk
  unfold storeA at h
  split at h
  · rename_i id n j
    cases hb : hget H id with
    | none => rw [hb] at h; cases h
    | some b =>
      rw [hb] at h
      simp only [storeB] at h
      obtain ⟨L, hL, rfl⟩ := live_ptr hH hp hb
      cases he : b.es[n]? with
      | none => rw [he] at h; cases h
      | some e =>
        rw [he] at h
        simp only [storeE] at h
        have fin : ∀ {cs : List AV} {a' : AV}, RC M w (if b.kd = 0 then ρ else []) cs va.cells.toList → cs.length = i.size → allOne cs = true → b.ro = false → j + i.size ≤ e.cells.length →
            DoesU P base M ρ H w (Instr.storeAt t (.pointer (some ⟨L.g, n * L.k + j, none⟩)) va) (H.set id (some { b with es := b.es.set n (putE e j cs) })) := by
          intro cs a' hrc hcl hone hro hje
          obtain ⟨p1, p2, p3, p4⟩ := storeV_hr hH (hget_some hb) hL hro he (j := j) hrc (by omega) (by omega) hone
          have hsz : va.cells.size = i.size := by have := hrc.len; simp at this; omega
          refine ⟨_, M, ρ, ?_, p1, p2⟩
          simp only [Instr.storeAt, Instr.sureAddr, Sem.run_bind, Sem.run_pure, Result.andThen_ok]
          exact run_storeVar hi hsz p3 p4 hrc.one
        split at h
        · rename_i hc
          split at h
          · rename_i hk0'
            unfold storeV at h
            split at h
            · cases h
            · rename_i cs hcs
              cases h
              obtain ⟨q1, q2, q3⟩ := partsOf_some hcs
              exact fin (a' := A) (by rw [if_pos hk0']; exact q3 ha) q1 q2 hc.1 hc.2
          · rename_i hk0'
            cases hf : fz H fzd A with
            | none => rw [hf] at h; cases h
            | some q =>
              rw [hf] at h
              obtain ⟨a', l⟩ := q
              simp only [storeQ] at h
              split at h
              · rename_i hl
                subst hl
                unfold storeV at h
                split at h
                · cases h
                · rename_i cs hcs
                  cases h
                  obtain ⟨q1, q2, q3⟩ := partsOf_some hcs
                  have hv := fz_ok hH fzd A va a' [] hf ha
                  have hv' : VR M w [] a' va := hv.wide fun g hg => by
                    rcases hg with hg | ⟨x, hx, _⟩
                    · exact hg
                    · cases hx
                  exact fin (a' := A) (by rw [if_neg hk0']; exact q3 hv') q1 q2 hc.1 hc.2
              · cases h
        · cases h
  · cases h
end Go.Proofs.YtlmjoimjdpfamaaGreat.Ev
namespace Go.Proofs.YtlmjoimjdpfamaaGreat.Ev
variable {P : Program} {base : Nat} {M : Nat → Prop} {ρ : Rho} {w : World}
theorem wr64 {x : Int} (h1 : -9223372036854775808 ≤ x) (h2 : x ≤ 9223372036854775807) : IntKind.i64.wrap x = x := by
  have hb : IntKind.i64.bits = 64 := rfl
  have hs : IntKind.i64.signed = true := rfl
  unfold IntKind.wrap
  rw [hb, hs]
  simp only [Bool.true_and, decide_eq_true_eq]
  have e1 : (2 : Int) ^ 64 = 18446744073709551616 := rfl
  have e2 : (2 : Int) ^ (64 - 1) = 9223372036854775808 := rfl
  rw [e1, e2]
  split <;> omega
def rows (k : Nat) : Nat → List AV → List (Nat × Nat × AV)
  | _, [] => []
  | i, a :: r => (i * k, k, a) :: rows k (i + 1) r
theorem fillRow {k : Nat} : ∀ (as : List AV) (i : Nat) (pre rest : List AV), pre.length = i * k → rest.length = as.length * k → okL (elemOk k) as = true → fillP (pre ++ rest) (rows k i as) = some (pre ++ as.flatMap AV.cells)
  | [], i, pre, rest, _, h2, _ => by
    have : rest = [] := List.eq_nil_of_length_eq_zero (by simpa using h2)
    simp [rows, fillP, this]
  | a :: as, i, pre, rest, h1, h2, h3 => by
    simp only [okL, Bool.and_eq_true] at h3
    obtain ⟨q1, q2⟩ := elemOk_some h3.1
    simp only [List.length_cons, Nat.add_mul, Nat.one_mul] at h2
    simp only [rows, fillP]
    rw [if_pos ⟨q1, by simp; omega, q2⟩]
    have e1 : (pre ++ rest).take (i * k) = pre := by rw [← h1]; simp
    have e2 : (pre ++ rest).drop (i * k + k) = rest.drop k := by rw [← h1]; simp
    rw [e1, e2, fillRow as (i + 1) (pre ++ a.cells) (rest.drop k) (by simp [h1, q1, Nat.add_mul]) (by simp; omega) h3.2]
    simp
theorem flat_at {k : Nat} : ∀ (as : List AV) (i j : Nat) (e c : AV), okL (elemOk k) as = true → as[i]? = some e → e.cells[j]? = some c → (as.flatMap AV.cells)[i * k + j]? = some c
  | [], i, j, e, c, _, h, _ => by simp at h
  | a :: as, i, j, e, c, h3, h, hc => by
    simp only [okL, Bool.and_eq_true] at h3
    obtain ⟨q1, q2⟩ := elemOk_some h3.1
    rw [List.flatMap_cons]
    cases i with
    | zero =>
      simp at h
      subst h
      rw [List.getElem?_append_left (by have := (List.getElem?_eq_some_iff.1 hc).1; omega)]
      simpa using hc
    | succ i =>
      have := flat_at as i j e c h3.2 (by simpa using h) hc
      rw [Nat.add_mul, Nat.one_mul, List.getElem?_append_right (by omega), q1]
      rwa [show i * k + k + j - k = i * k + j by omega]
theorem flat_len {k : Nat} : ∀ (as : List AV), okL (elemOk k) as = true → (as.flatMap AV.cells).length = as.length * k
  | [], _ => by simp
  | a :: as, h3 => by
    simp only [okL, Bool.and_eq_true] at h3
    obtain ⟨q1, q2⟩ := elemOk_some h3.1
    rw [List.flatMap_cons, List.length_append, flat_len as h3.2, q1, List.length_cons, Nat.add_mul]
    omega
theorem okL_at {f : AV → Bool} : ∀ {as : List AV}, okL f as = true → ∀ (i : Nat) (e : AV), as[i]? = some e → f e = true
  | [], _, i, e, h => by simp at h
  | a :: as, h3, i, e, h => by
    simp only [okL, Bool.and_eq_true] at h3
    cases i with
    | zero => simp at h; subst h; exact h3.1
    | succ i => exact okL_at h3.2 i e (by simpa using h)
theorem rows_get {k : Nat} : ∀ (as : List AV) (i x : Nat) (p : Nat × Nat × AV), (rows k i as)[x]? = some p → ∃ a, as[x]? = some a ∧ p = ((i + x) * k, k, a)
  | [], i, x, p, h => by simp [rows] at h
  | a :: as, i, x, p, h => by
    cases x with
    | zero => simp [rows] at h; exact ⟨a, rfl, by rw [← h]; simp⟩
    | succ x =>
      obtain ⟨a', h1, h2⟩ := rows_get as (i + 1) x p (by simpa [rows] using h)
      exact ⟨a', by simpa using h1, by rw [h2, show i + 1 + x = i + (x + 1) by omega]⟩
theorem rows_len {k : Nat} : ∀ (as : List AV) (i : Nat), (rows k i as).length = as.length
  | [], _ => rfl
  | a :: as, i => by simp [rows, rows_len as]
theorem bslice_run {t e : TypeId} {i : TypeInfo} {z : Value} (ht : P.underlying t = some (.slice e)) (hi : P.info? e = some i) (hz : i.zero = some z) (hzs : z.cells.size = i.size) (hz1 : ∀ u ∈ z.cells.toList, u.oneCell' = true) (hk0 : 0 < i.size) {n : Nat} (hn : n * i.size ≤ 16777216)
    {as : List AV} (hlen : as.length = n) (hok : okL (elemOk i.size) as = true) {parts : Array (Nat × Value)} (hidx : parts.toList.map (·.1) = List.range n) (hrel : ∀ (x : Nat) (a : AV) (q : Nat × Value), as[x]? = some a → parts.toList[x]? = some q → VR M w [] a q.2) :
    ∃ Z : Array Value, (Instr.buildSlice t n parts).run P w = .ok (.slice (some ⟨w.heap.size, 0, none⟩) n n) (w.alloc (.cells Z e)) ∧ Z.size = n * i.size ∧
      ∀ (x : Nat) (el : AV) (j : Nat) (c : AV), as[x]? = some el → el.cells[j]? = some c → ∃ u, Z[x * i.size + j]? = some u ∧ u.oneCell' = true ∧ VR M w [] c u := by
  obtain ⟨zc, hzc⟩ : ∃ zc : Array Value, zc = (if n * i.size = 0 then #[] else z.cells) := ⟨_, rfl⟩
  obtain ⟨Z0, hZ0⟩ : ∃ Z0 : Array Value, Z0 = (Array.range (n * i.size)).map (fun x => zc[x % zc.size]!) := ⟨_, rfl⟩
  have hZ0s : Z0.size = n * i.size := by rw [hZ0]; simp
  have hZ01 : ∀ u ∈ Z0.toList, u.oneCell' = true := by
    intro u hu
    rw [hZ0] at hu
    simp only [Array.toList_map, List.mem_map] at hu
    obtain ⟨x, hx, rfl⟩ := hu
    have hx' : x < n * i.size := by simpa using hx
    have hnz : ¬ n * i.size = 0 := by omega
    rw [hzc, if_neg hnz]
    have hlt : x % z.cells.size < z.cells.size := Nat.mod_lt _ (by omega)
    rw [getElem!_pos z.cells _ hlt]
    exact hz1 _ (by rw [← Array.getElem_toList]; exact List.getElem_mem _)
  have hvals : RC M w [] (Z0.toList.map .v) Z0.toList := RC.vals hZ01
  have hfill := fillRow (k := i.size) as 0 [] (Z0.toList.map .v) (by simp) (by simp [hZ0s, hlen]) hok
  simp only [List.nil_append] at hfill
  have hpl : parts.toList.length = n := by have := congrArg List.length hidx; simpa using this
  obtain ⟨Z', h1, h2⟩ := fill_sound (M := M) (w := w) (ρ := []) (fun x => some (x * i.size, i.size)) (rows i.size 0 as) parts.toList _ _ Z0 hvals (by rw [rows_len, hlen, hpl]) (fun x p q hp hq => by
    obtain ⟨a, ha, rfl⟩ := rows_get as 0 x p hp
    have hq1 : q.1 = x := by
      have h3 : (parts.toList.map (·.1))[x]? = some q.1 := by rw [List.getElem?_map, hq]; rfl
      rw [hidx] at h3
      have hx : x < n := by have := (List.getElem?_eq_some_iff.1 hq).1; omega
      rw [List.getElem?_range hx] at h3
      cases h3
      rfl
    refine ⟨by simp [hq1], hrel x a q ha hq⟩) hfill
  have hZs : Z'.size = n * i.size := by have := h2.len; rw [flat_len as hok, hlen] at this; simpa using this.symm
  refine ⟨Z', ?_, hZs, fun x el j c hx hc => ?_⟩
  · have hgt : ¬ n * i.size > 16777216 := by omega
    have hz2 : (zeroValue e).run P w = .ok z w := by simp [zeroValue, typeInfo, hi, hz]
    rw [hZ0, hzc] at h1
    simp only [Instr.buildSlice, Sem.run_bind, run_und ht, Result.andThen_ok, run_size hi]
    have hgt' : ¬ n * i.size > 2 ^ 24 := by omega
    rw [if_neg hgt']
    by_cases hz0 : n * i.size = 0
    · rw [if_pos hz0] at h1
      simp only [hz0, if_true, Sem.run_bind, Sem.run_pure, Result.andThen_ok] at h1 ⊢
      simp only [h1, newRow, Sem.run_bind, run_newObj, Result.andThen_ok, Sem.run_pure]
      rfl
    · rw [if_neg hz0] at h1
      simp only [hz0, if_false, Sem.run_bind, hz2, Sem.run_pure, Result.andThen_ok] at h1 ⊢
      simp only [h1, newRow, Sem.run_bind, run_newObj, Result.andThen_ok, Sem.run_pure]
      rfl
  · have hf := flat_at as x j el c hok hx hc
    obtain ⟨u, hu⟩ := get_of_len h2.len.symm hf
    exact ⟨u, by rw [← Array.getElem?_toList]; exact hu, h2.one u (List.mem_of_getElem? hu), h2.all _ c u hf hu⟩
/-- A row of literals, its parts frozen first. -/
theorem bslice_sound {H : Hp} (hH : HR base M ρ H w) (hB : base ≤ w.heap.size) {s : List (Nat × AV)} {a : Act} {t : TypeId} {n : Nat} {parts : Array (Nat × Operand)} (hS : Opd M ρ w s a (parts.toList.map (·.2))) {e k : Nat} {los : List LO} (hc : compOp P (.buildSlice t n parts) = some (.bslice e k los))
    {r : AV} {H' : Hp} (h : bsliceA e k H (fzL (fz H fzd) (evs s los)) = some (r, H')) : Does P base M ρ H w (Instr.buildSlice t n (parts.map fun (i, x) => (i, a.eval x))) r H' := by
  simp only [compOp] at hc
  split at hc
  · rename_i e' hu
    obtain ⟨k', hk, h2⟩ := bind_iff.1 hc
    obtain ⟨zs, hz, h3⟩ := bind_iff.1 h2
    split at h3
    · rename_i hcd
      cases h3
      obtain ⟨i, hi, rfl, hk0⟩ := szOf_some hk
      obtain ⟨i', z, hi', hiz, hsz, rfl, hone⟩ := zeroOf_some hz
      rw [hi] at hi'
      cases hi'
      cases hq : fzL (fz H fzd) (evs s (parts.toList.map fun p => loOf p.2)) with
      | none => rw [hq] at h; cases h
      | some q =>
        obtain ⟨as, l⟩ := q
        rw [hq] at h
        simp only [bsliceA] at h
        split at h
        · rename_i hok
          cases h
          obtain ⟨m1, m2⟩ := hH.mark l
          have hlen : as.length = n := by
            have h5 := fzL_len hq
            have h6 := congrArg List.length hcd.2.2
            simp [evs] at h5 h6
            omega
          have hpl : (parts.map fun (i, x) => (i, a.eval x)).toList.map (·.1) = List.range n := by rw [← hcd.2.2]; simp
          obtain ⟨Z, r1, r2, r3⟩ := bslice_run (M := Mu M ρ l) (w := w) hu hi hiz hsz hone hk0 hcd.2.1 hlen hok hpl (fun x av q ha hq' => by
            have hps : (parts.map fun (i, x) => (i, a.eval x)).toList = parts.toList.map fun p => (p.1, a.eval p.2) := by simp
            rw [hps, List.getElem?_map] at hq'
            cases hpx : parts.toList[x]? with
            | none => rw [hpx] at hq'; cases hq'
            | some p0 =>
              rw [hpx] at hq'
              cases hq'
              refine fzL_ok (fz_ok hH fzd) hq x _ av _ ?_ ha (hS p0.2 (List.mem_map_of_mem (List.mem_of_getElem? hpx)))
              simp [evs, hpx])
          obtain ⟨p1, p2⟩ := HR.push (w' := w.alloc (.cells Z e)) (fr := (0, 0)) (b := ⟨e, i.size, 1, false, as⟩) (cap := n) m1 hB rfl rfl rfl rfl r2 hk0 rfl (.inl rfl) (by
              have : n * 1 ≤ n * i.size := Nat.mul_le_mul_left n hk0
              have := hcd.2.1
              unfold maxLen
              omega) (by simp [hlen]) (fun x el hx => (elemOk_some (okL_at hok x el hx)).1) r3
          refine ⟨_, _, _, _, r1, p1, m2.trans p2, ?_⟩
          have hr := push_ref m1 (⟨w.heap.size, n, i.size⟩ : Loc)
          rw [markRo_len] at hr
          rw [hlen]
          exact VR.sl (A := some ⟨w.heap.size, 0, none⟩) _ hr (Nat.zero_add _) (Nat.le_refl _) (.inr (by simp))
        · cases h
    · cases h3
  · cases hc
theorem allOne_at : ∀ {l : List AV}, allOne l = true → ∀ (i : Nat) (c : AV), l[i]? = some c → c.one = true
  | [], _, i, c, h => by simp at h
  | a :: r, ho, i, c, h => by
    have ho' : (a.one && allOne r) = true := ho
    rw [Bool.and_eq_true] at ho'
    cases i with
    | zero => simp at h; subst h; exact ho'.1
    | succ i => exact allOne_at ho'.2 i c (by simpa using h)
theorem one_cells {c : AV} (h : c.one = true) : c.cells = [c] := by
  cases c <;> first | rfl | (simp [AV.one] at h; done)
/-- A whole array as a row, frozen first. -/
theorem aslice_sound {H : Hp} (hH : HR base M ρ H w) {t e : TypeId} {n : Nat} (hu : P.underlying t = some (.array n e)) (hk : szOf P e = some 1) {A r : AV} {va : Value} (ha : VR M w ρ A va) {H' : Hp}
    (h : asliceA n H (fz H fzd A) = some (r, H')) : Does P base M ρ H w (Instr.sliceAt t va none none none) r H' := by
  obtain ⟨i, hi, hi1, hk0⟩ := szOf_some hk
  cases hq : fz H fzd A with
  | none => rw [hq] at h; cases h
  | some q =>
    obtain ⟨b, l⟩ := q
    rw [hq] at h
    have hz := fz_ok hH fzd A va b l hq ha
    unfold asliceA at h
    split at h
    · rename_i el l' heq
      cases heq
      split at h
      · rename_i hc
        cases h
        obtain ⟨m1, m2⟩ := hH.mark l
        cases hz with
        | @el _ _ _ ad U hs hM hm hr =>
          have hrun : (Instr.sliceAt t (.pointer (some ad)) none none none).run P w = .ok (.slice (some ad) n n) w := by
            have hb := bounds_run (P := P) (M := M) (ρ := ρ) (w := w) (isS := false) (len := n) (cap := n) (lo := none) (hi := none) (vlo := none) (vhi := none) trivial trivial (l := 0) (h := (n : Int)) rfl rfl (by omega) (by omega) (by omega)
            have hn0 : ¬ n = 0 := by omega
            simp only [Int.toNat_natCast] at hb
            simp only [Instr.sliceAt, Sem.run_bind, run_und hu, Result.andThen_ok, Instr.sureAddr, Sem.run_pure, hb, run_size hi]
            have had : ad.add 0 = ad := by
              rw [add_spot hs]
              cases ad
              simp at hs
              subst hs
              rfl
            simp [hn0, had]
          refine ⟨_, _, _, _, hrun, m1, m2, ?_⟩
          have one : ∀ (x : Nat) (c : AV), el.cells[x]? = some c → c.cells = [c] := fun x c hx => one_cells (allOne_at hc.2.2 x c hx)
          have key : VR (Mu M ρ l) w [] (.lst 1 el.cells) (.slice (some ad) el.cells.length n) := by
            refine .lst (fun x _ => U x) (by omega) (fun _ => ⟨ad, rfl, hs, hM⟩) (fun x c hx => by rw [one x c hx]; rfl) (fun a' ha' x c j c' hx hj => ?_) (fun x c j c' hx hj => ?_)
            · cases ha'
              rw [one x c hx] at hj
              have hj0 : j = 0 := by have := (List.getElem?_eq_some_iff.1 hj).1; simp at this; omega
              subst hj0
              have := hm x c (Nat.zero_le _) hx
              rw [Nat.sub_zero] at this
              simpa using this
            · rw [one x c hx] at hj
              have hj0 : j = 0 := by have := (List.getElem?_eq_some_iff.1 hj).1; simp at this; omega
              subst hj0
              simp at hj
              subst hj
              exact hr x c hx
          rw [hc.1] at key
          exact key.up ρ
      · cases h
    · cases h
theorem bytesWorld_heap (w : World) (e : TypeId) (s : ByteArray) : (Lib.bytesWorld w e s).heap = w.heap.push (.cells (Lib.bytesCells w e s) e ((Lib.bytesCells w e s).size, (Lib.bytesCells w e s).size + 1)) := by
  apply Array.ext_getElem?
  intro j
  rw [Array.getElem?_push]
  by_cases h1 : j = w.heap.size
  · subst h1
    rw [if_pos rfl]
    exact Lib.bytesWorld_at_new w e s
  · rw [if_neg h1]
    by_cases h2 : j < w.heap.size
    · exact Lib.bytesWorld_at_old w e s j h2
    · rw [Array.getElem?_eq_none (by rw [Lib.bytesWorld_size]; omega), Array.getElem?_eq_none (by omega)]
theorem s2b_sound {H : Hp} (hH : HR base M ρ H w) (hB : base ≤ w.heap.size) {s d e : TypeId} (hs : P.underlying s = some .string) (hd : P.underlying d = some (.slice e)) (he : P.underlying e = some (.int .u8)) {A r : AV} {va : Value} (ha : VR M w ρ A va) {H' : Hp}
    (h : s2bA e H A = some (r, H')) : Does P base M ρ H w (convert s d va) r H' := by
  unfold s2bA at h
  split at h
  · rename_i x
    split at h
    · rename_i hl
      cases h
      obtain rfl := vr_v ha
      have hrun := Lib.run_convert_string_bytes (P := P) w s d e x hs hd he
      have hge : x.size ≤ grownCap w x.size 0 e := grownCap_ge w x.size 0 e
      have hcs : (Lib.bytesCells w e x).size = grownCap w x.size 0 e * 1 := by
        simp only [Lib.bytesCells, Array.size_append, Array.size_map, Array.size_replicate]
        have : x.data.size = x.size := rfl
        omega
      obtain ⟨p1, p2⟩ := HR.push (w' := Lib.bytesWorld w e x) (b := ⟨e, 1, 2, false, u8s x.data.toList⟩) (cap := grownCap w x.size 0 e) hH hB (bytesWorld_heap w e x) rfl rfl rfl hcs Nat.one_pos rfl (.inr ⟨rfl, Nat.le_refl _⟩)
        (grownCap_le_maxLen w _ _ _ (by unfold maxLen; omega)) (by simp [u8s]; exact hge) (fun i y hy => by
          simp only [u8s, List.getElem?_map] at hy
          cases hx : x.data.toList[i]? with
          | none => rw [hx] at hy; cases hy
          | some b => rw [hx] at hy; cases hy; rfl) (fun i y j c hy hc => by
          simp only [u8s, List.getElem?_map] at hy
          cases hx : x.data.toList[i]? with
          | none => rw [hx] at hy; cases hy
          | some b =>
            rw [hx] at hy
            cases hy
            cases j with
            | succ j => simp [AV.cells] at hc
            | zero =>
              simp [AV.cells] at hc
              subst hc
              refine ⟨.int .u8 b.toNat, ?_, rfl, .v⟩
              have hlt : i < x.data.size := by simpa using (List.getElem?_eq_some_iff.1 hx).1
              simp only [Lib.bytesCells, Nat.mul_one, Nat.add_zero]
              rw [Array.getElem?_append_left (by simpa using hlt), Array.getElem?_map, ← Array.getElem?_toList, hx]
              rfl)
      refine ⟨_, _, _, _, hrun, p1, p2, ?_⟩
      have hr := push_ref hH (⟨w.heap.size, grownCap w x.size 0 e, 1⟩ : Loc)
      exact VR.sl (A := some ⟨w.heap.size, 0, none⟩) _ hr (Nat.zero_add _) hge (.inr (by simp))
    · cases h
  · cases h
theorem zeroEl_some {t : TypeId} {zz : AV} (h : zeroEl P t = some zz) : ∃ i z, P.info? t = some i ∧ i.zero = some z ∧ z.cells.size = i.size ∧ (∀ u ∈ z.cells.toList, u.oneCell' = true) ∧ zz.cells = z.cells.toList.map .v := by
  unfold zeroEl at h
  obtain ⟨zs, hz, h2⟩ := bind_iff.1 h
  obtain ⟨ag, hag, h3⟩ := bind_iff.1 h2
  obtain ⟨i, z, hi, hiz, hsz, rfl, hone⟩ := zeroOf_some hz
  refine ⟨i, z, hi, hiz, hsz, hone, ?_⟩
  cases ag with
  | true => rw [mk_true h3]; rfl
  | false =>
    have h4 := mk_false h3
    have hzz : ∃ c, zz = .v c ∧ c.oneCell' = true := by
      cases hl : z.cells.toList with
      | nil => rw [hl] at h4; cases h4
      | cons c r =>
        rw [hl] at h4
        simp only [List.map_cons, List.cons.injEq] at h4
        exact ⟨c, h4.1.symm, hone c (by rw [hl]; simp)⟩
    obtain ⟨c, rfl, hc⟩ := hzz
    rw [h4]
    cases c <;> first | rfl | (simp [Value.oneCell'] at hc; done)
theorem mkslice_sound {H : Hp} (hH : HR base M ρ H w) (hB : base ≤ w.heap.size) {t e : TypeId} (hu : P.underlying t = some (.slice e)) {k : Nat} (hk : szOf P e = some k) {b : Nat} (hb : bytesOfT P e = some b) {zz : AV} (hz : zeroEl P e = some zz) {A C r : AV} {va vc : Value}
    (ha : VR M w ρ A va) (hc : VR M w ρ C vc) {H' : Hp} (h : mksliceA e k b zz H A C = some (r, H')) : Does P base M ρ H w (Instr.makeSlice t va vc) r H' := by
  obtain ⟨i, hi, rfl, hk0⟩ := szOf_some hk
  obtain ⟨i', z, hi', hiz, hsz, hone, hcells⟩ := zeroEl_some hz
  rw [hi] at hi'
  cases hi'
  have hbb : b = i.bytes := by
    unfold bytesOfT at hb
    rw [hi] at hb
    simpa using hb.symm
  subst hbb
  unfold mksliceA at h
  split at h
  · rename_i k1 n k2 m
    split at h
    · rename_i hcd
      obtain ⟨c1, c2, c3, c4⟩ := hcd
      cases h
      obtain rfl := vr_v ha
      obtain rfl := vr_v hc
      obtain ⟨mm, rfl⟩ : ∃ mm : Nat, m = mm := ⟨m.toNat, by omega⟩
      obtain ⟨nn, rfl⟩ : ∃ nn : Nat, n = nn := ⟨n.toNat, by omega⟩
      have w1 : IntKind.i64.wrap (nn : Int) = nn := wr64 (by omega) (by omega)
      have w2 : IntKind.i64.wrap (mm : Int) = mm := wr64 (by omega) (by omega)
      have hbm : (i.bytes : Int) * mm ≤ 140737488355328 := by rw [Int.mul_comm]; exact c3
      obtain ⟨zc, hzc⟩ : ∃ zc : Array Value, zc = (if mm * i.size = 0 then #[] else z.cells) := ⟨_, rfl⟩
      obtain ⟨Z, hZ⟩ : ∃ Z : Array Value, Z = (Array.range (mm * i.size)).map (fun x => zc[x % zc.size]!) := ⟨_, rfl⟩
      have hZs : Z.size = mm * i.size := by rw [hZ]; simp
      have hrun : (Instr.makeSlice t (.int k1 nn) (.int k2 mm)).run P w = .ok (.slice (some ⟨w.heap.size, 0, none⟩) nn mm) (w.alloc (.cells Z e)) := by
        simp only [Instr.makeSlice, Sem.run_bind, run_und hu, Result.andThen_ok, asInt, asIntOf, Sem.run_pure, typeInfo, run_program, hi, w1, w2]
        have hf : ((decide ((mm : Int) < 0) || decide ((i.bytes : Int) * mm > 2 ^ 48)) || decide ((nn : Int) < 0) || decide ((nn : Int) > mm)) = false := by
          simp only [Bool.or_eq_false_iff, decide_eq_false_iff_not]
          omega
        have hz2 : (zeroValue e).run P w = .ok z w := by simp [zeroValue, typeInfo, hi, hiz]
        simp only [hf, Bool.false_eq_true, if_false, Sem.run_bind, run_askRoom, Result.andThen_ok, run_size hi, Int.toNat_natCast, Sem.run_ite, Sem.run_pure, hz2]
        rw [hZ, hzc]
        by_cases hz0 : mm * i.size = 0
        · simp [hz0, newRow]
        · simp [hz0, newRow]
      have hcell : ∀ (x : Nat) (el : AV) (j : Nat) (c : AV), (List.replicate nn zz)[x]? = some el → el.cells[j]? = some c → ∃ u, Z[x * i.size + j]? = some u ∧ u.oneCell' = true ∧ VR M w [] c u := by
        intro x el j c hx hcc
        rw [List.getElem?_replicate] at hx
        split at hx
        · rename_i hxn
          cases hx
          rw [hcells, List.getElem?_map] at hcc
          cases hzj : z.cells.toList[j]? with
          | none => rw [hzj] at hcc; cases hcc
          | some u =>
            rw [hzj] at hcc
            cases hcc
            have hj : j < i.size := by rw [← hsz]; simpa using (List.getElem?_eq_some_iff.1 hzj).1
            have hlt : x * i.size + j < mm * i.size := by
              have : (x + 1) * i.size ≤ mm * i.size := Nat.mul_le_mul_right _ (by omega)
              rw [Nat.add_mul] at this
              omega
            refine ⟨u, ?_, hone u (List.mem_of_getElem? hzj), .v⟩
            have hnz : ¬ mm * i.size = 0 := by omega
            rw [hZ, Array.getElem?_map, Array.getElem?_range, if_pos hlt]
            simp only [Option.map_some, Option.some.injEq]
            rw [hzc, if_neg hnz, hsz, Nat.mul_comm x, Nat.mul_add_mod, Nat.mod_eq_of_lt hj, getElem!_pos z.cells j (by omega)]
            rw [Array.getElem?_toList, Array.getElem?_eq_getElem (by omega)] at hzj
            exact Option.some.inj hzj
        · cases hx
      obtain ⟨p1, p2⟩ := HR.push (w' := w.alloc (.cells Z e)) (fr := (0, 0)) (b := ⟨e, i.size, 1, false, List.replicate nn zz⟩) (cap := mm) hH hB rfl rfl rfl rfl hZs hk0 rfl (.inl rfl) (by unfold maxLen; omega) (by simp; omega) (fun x el hx => by
        rw [List.getElem?_replicate] at hx
        split at hx
        · cases hx; rw [hcells]; simp [hsz]
        · cases hx) hcell
      refine ⟨_, _, _, _, hrun, p1, p2, ?_⟩
      have hr := push_ref hH (⟨w.heap.size, mm, i.size⟩ : Loc)
      rw [Int.toNat_natCast]
      exact VR.sl (A := some ⟨w.heap.size, 0, none⟩) _ hr (Nat.zero_add _) (by omega) (.inr (by simp))
    · cases h
  · cases h
theorem zeroCells_at {z : Array Value} {n x j : Nat} {u : Value} (hx : x < n) (h : z[j]? = some u) : (Builtin.zeroCells z n)[x * z.size + j]? = some u := by
  obtain ⟨hj, h1⟩ := Array.getElem?_eq_some_iff.1 h
  have hlt : x * z.size + j < n * z.size := by
    have : (x + 1) * z.size ≤ n * z.size := Nat.mul_le_mul_right _ (by omega)
    rw [Nat.add_mul] at this
    omega
  unfold Builtin.zeroCells
  rw [Array.getElem?_map, Array.getElem?_range, if_pos hlt]
  simp only [Option.map_some, Option.some.injEq]
  rw [Nat.mul_comm x, Nat.mul_add_mod, Nat.mod_eq_of_lt hj, getElem!_pos z j hj]
  exact h1
theorem mkapp_sound {H : Hp} (hH : HR base M ρ H w) (hB : base ≤ w.heap.size) {t tn ty e : TypeId} {kn : IntKind} (hu : P.underlying t = some (.slice e)) (htn : P.underlying tn = some (.int kn)) {k : Nat} (hk : szOf P e = some k) {b : Nat} (hb : bytesOfT P e = some b) {zz : AV} (hz : zeroEl P e = some zz) {A C r : AV} {va vc : Value}
    (ha : VR M w ρ A va) (hc : VR M w ρ C vc) {H' : Hp} (h : mkappA e k b zz H A C = some (r, H')) : Does P base M ρ H w (Builtin.append_ #[t, tn] ty #[va, vc]) r H' := by
  obtain ⟨i, hi, rfl, hk0⟩ := szOf_some hk
  obtain ⟨i', z, hi', hiz, hsz, hone, hcells⟩ := zeroEl_some hz
  rw [hi] at hi'
  cases hi'
  have hbb : b = i.bytes := by
    unfold bytesOfT at hb
    rw [hi] at hb
    simpa using hb.symm
  subst hbb
  unfold mkappA at h
  split at h
  · rename_i k1 n
    split at h
    · rename_i hcd
      obtain ⟨c1, c2, c3⟩ := hcd
      cases h
      obtain rfl := vr_v ha
      obtain rfl := vr_v hc
      obtain ⟨nn, rfl⟩ : ∃ nn : Nat, n = nn := ⟨n.toNat, by omega⟩
      have c2' : nn * i.bytes ≤ 140737488355328 := by rw [← Int.natCast_mul] at c2; omega
      have hrun := Lib.run_append_nil_zeros (P := P) w t tn ty e i z k1 kn hu htn hi hiz nn (by omega) hk0 (by omega) (by omega)
      have hge := grownCap_ge w nn 0 e
      have hcl : grownCap w nn 0 e ≤ maxLen := grownCap_le_maxLen w nn 0 e (by unfold maxLen; omega)
      have hcs : (Builtin.zeroCells z.cells nn ++ Builtin.zeroCells z.cells (grownCap w nn 0 e - nn)).size = grownCap w nn 0 e * i.size := by
        simp only [Array.size_append, size_zeroCells, hsz, ← Nat.add_mul]
        congr 1
        omega
      obtain ⟨p1, p2⟩ := HR.push (w' := w.drew.alloc (.cells (Builtin.zeroCells z.cells nn ++ Builtin.zeroCells z.cells (grownCap w nn 0 e - nn)) e)) (fr := (0, 0)) (b := ⟨e, i.size, 1, false, List.replicate nn zz⟩) (cap := grownCap w nn 0 e)
        hH hB rfl rfl rfl rfl hcs hk0 rfl (.inl rfl) hcl (by simpa using hge) (fun x el hx => by
          rw [List.getElem?_replicate] at hx
          split at hx
          · cases hx; rw [hcells]; simp [hsz]
          · cases hx) (fun x el j c hx hcc => by
          rw [List.getElem?_replicate] at hx
          split at hx
          · rename_i hxn
            cases hx
            rw [hcells, List.getElem?_map] at hcc
            cases hzj : z.cells.toList[j]? with
            | none => rw [hzj] at hcc; cases hcc
            | some u =>
              rw [hzj] at hcc
              cases hcc
              rw [Array.getElem?_toList] at hzj
              have hat := zeroCells_at (n := nn) hxn hzj
              rw [hsz] at hat
              refine ⟨u, ?_, hone u (List.mem_of_getElem? (by rw [Array.getElem?_toList]; exact hzj)), .v⟩
              have hlt : x * i.size + j < (Builtin.zeroCells z.cells nn).size := (Array.getElem?_eq_some_iff.1 hat).1
              show (Builtin.zeroCells z.cells nn ++ Builtin.zeroCells z.cells (grownCap w nn 0 e - nn))[x * i.size + j]? = some u
              rw [Array.getElem?_append_left hlt]
              exact hat
          · cases hx)
      refine ⟨_, _, _, _, hrun, p1, p2, ?_⟩
      have hr := push_ref hH (⟨w.heap.size, grownCap w nn 0 e, i.size⟩ : Loc)
      rw [Int.toNat_natCast]
      exact VR.sl (A := some ⟨w.heap.size, 0, none⟩) _ hr (Nat.zero_add _) hge (.inr (by simp))
    · cases h
  · cases h
theorem allV_at : ∀ {ys : List AV}, allV ys = true → ∀ (i : Nat) (c : AV), ys[i]? = some c → ∃ x, c = .v x ∧ (AV.v x).one = true
  | [], _, i, c, hc => by simp at hc
  | .v x :: r, h, i, c, hc => by
    rw [allV, Bool.and_eq_true] at h
    cases i with
    | zero => simp at hc; exact ⟨x, hc.symm, h.1⟩
    | succ i => exact allV_at h.2 i c (by simpa using hc)
  | .x :: _, h, _, _, _ => by simp [allV] at h
  | .lst _ _ :: _, h, _, _, _ => by simp [allV] at h
  | .sl _ _ _ :: _, h, _, _, _ => by simp [allV] at h
  | .ptr _ _ _ :: _, h, _, _, _ => by simp [allV] at h
  | .agg _ :: _, h, _, _, _ => by simp [allV] at h
  | .tup _ :: _, h, _, _, _ => by simp [allV] at h
  | .el _ _ :: _, h, _, _, _ => by simp [allV] at h
  | .fn _ _ _ :: _, h, _, _, _ => by simp [allV] at h
theorem putN_len : ∀ (ys es : List AV) (i : Nat), (putN es i ys).length = es.length
  | [], _, _ => rfl
  | c :: r, es, i => by rw [putN, putN_len r, List.length_set]
theorem setCells_cons (w : World) (g o : Nat) (v : Value) (r : List Value) : w.setCells g o (v :: r) = (w.setCells g o [v]).setCells g (o + 1) r := rfl
/-- Values put one by one into a row. -/
theorem putN_hr : ∀ (ys : List AV) (vs : List Value) {H : Hp} {w : World} (hH : HR base M ρ H w) {id : Nat} {b : Blk} (hb : H[id]? = some (some b)) {L : Loc} (hL : ρ[id]? = some (some L)) (hro : b.ro = false) (hk : b.k = 1) (i : Nat) (hf : i + ys.length ≤ b.es.length)
    (hv : ys = vs.map AV.v) (ho : ∀ v ∈ vs, (AV.v v).one = true),
    HR base M ρ (H.set id (some { b with es := putN b.es i ys })) (w.setCells L.g i vs) ∧ Ext M ρ H w M ρ (H.set id (some { b with es := putN b.es i ys })) (w.setCells L.g i vs) ∧
      (∀ x, x < vs.length → (w.cell? ⟨L.g, i + x, none⟩).isSome = true) ∧ ∀ x, x < vs.length → w.frozen? ⟨L.g, i + x, none⟩ = false := by
  have hone : ∀ {H : Hp} {w : World} (hH : HR base M ρ H w) {id : Nat} {b : Blk} (hb : H[id]? = some (some b)) {L : Loc} (hL : ρ[id]? = some (some L)) (hro : b.ro = false) (hk : b.k = 1) (i : Nat) (hi : i < b.es.length) (v : Value) (hv : (AV.v v).one = true),
      HR base M ρ (H.set id (some { b with es := b.es.set i (putE (b.es.getD i .x) 0 [.v v]) })) (w.setCells L.g i [v]) ∧ Ext M ρ H w M ρ (H.set id (some { b with es := b.es.set i (putE (b.es.getD i .x) 0 [.v v]) })) (w.setCells L.g i [v]) ∧
        (w.cell? ⟨L.g, i, none⟩).isSome = true ∧ w.frozen? ⟨L.g, i, none⟩ = false := by
    intro H w hH id b hb L hL hro hk i hi v hv
    have q := hH.blk id b L hb hL
    have he : b.es[i]? = some (b.es.getD i .x) := by rw [List.getD_eq_getElem?_getD, List.getElem?_eq_getElem hi]; rfl
    have hek := q.ek i _ he
    have hrc : RC M w (if b.kd = 0 then ρ else []) [AV.v v] [v] := by
      have h1 : RC M w (if b.kd = 0 then ρ else []) (AV.v v).cells v.cells.toList := RC.cells .v (by show allOne [AV.v v] = true; simp [allOne, hv])
      have hc : v.cells.toList = [v] := by
        have h2 := h1.len
        have h3 := h1.one
        have h4 := (VR.v (M := M) (w := w) (ρ := ρ) (c := v)).one hv
        cases v <;> first | rfl | (simp [Value.oneCell'] at h4; done)
      rw [hc] at h1
      exact h1
    obtain ⟨p1, p2, p3, p4⟩ := storeV_hr hH hb hL hro he (j := 0) hrc (by show 0 + 1 ≤ _; omega) (by show 0 < 1; omega) (by simp [allOne, hv])
    have hLk : L.k = 1 := q.kk.trans hk
    rw [hLk, Nat.mul_one, Nat.add_zero] at p1 p2 p3 p4
    refine ⟨p1, p2, ?_, ?_⟩
    · have := p3 0 (by simp)
      rwa [Nat.add_zero] at this
    · have := p4 0 (by simp)
      rwa [Nat.add_zero] at this
  intro ys
  induction ys with
  | nil =>
    intro vs H w hH id b hb L hL hro hk i hf hv ho
    cases vs with
    | nil =>
      have hs : H.set id (some { b with es := putN b.es i [] }) = H := by
        obtain ⟨hi, h2⟩ := List.getElem?_eq_some_iff.1 hb
        show H.set id (some b) = H
        rw [← h2]
        exact List.set_getElem_self hi
      rw [hs]
      exact ⟨hH, Ext.refl _ _ _ _, fun x hx => by simp at hx, fun x hx => by simp at hx⟩
    | cons v vs => simp at hv
  | cons c ys ih =>
    intro vs H w hH id b hb L hL hro hk i hf hv ho
    cases vs with
    | nil => simp at hv
    | cons v vs =>
      rw [List.map_cons] at hv
      obtain ⟨ec, ev⟩ := List.cons.inj hv
      subst ec
      clear hv
      have hv := ev
      rw [List.length_cons] at hf
      obtain ⟨p1, p2, p3, p4⟩ := hone hH hb hL hro hk i (by omega) v (ho v (List.mem_cons_self ..))
      have hid : id < H.length := (List.getElem?_eq_some_iff.1 hb).1
      obtain ⟨q1, q2, q3, q4⟩ := ih vs p1 (id := id) (b := { b with es := b.es.set i (putE (b.es.getD i .x) 0 [.v v]) }) (by rw [List.getElem?_set_self hid]) hL hro hk (i + 1) (by show i + 1 + ys.length ≤ (b.es.set _ _).length; rw [List.length_set]; omega) hv (fun u hu => ho u (List.mem_cons_of_mem _ hu))
      rw [List.set_set] at q1 q2
      refine ⟨q1, p2.trans q2, fun x hx => ?_, fun x hx => ?_⟩
      · obtain ⟨_, _, r3, _⟩ := hone hH hb hL hro hk (i + x) (by have := congrArg List.length hv; simp at this hx; omega) v (ho v (List.mem_cons_self ..))
        exact r3
      · obtain ⟨_, _, _, r4⟩ := hone hH hb hL hro hk (i + x) (by have := congrArg List.length hv; simp at this hx; omega) v (ho v (List.mem_cons_self ..))
        exact r4
theorem copy_sound {H : Hp} (hH : HR base M ρ H w) {t ty e : TypeId} (hu : P.underlying t = some (.slice e)) (hk : szOf P e = some 1) {D S r : AV} {vd vs : Value} (hd : VR M w ρ D vd) (hs : VR M w ρ S vs) {H' : Hp} (h : copyA H D S = some (r, H')) :
    Does P base M ρ H w (Builtin.copy_ #[t, t] ty #[vd, vs]) r H' := by
  obtain ⟨i, hi, hi1, _⟩ := szOf_some hk
  have hsz : (P.info? e).map (·.size) = some 1 := by rw [hi]; simp [hi1]
  unfold copyA at h
  split at h
  · rename_i id off n
    cases hb : hget H id with
    | none => rw [hb] at h; simp only [copyB] at h; cases h
    | some b =>
      cases hq : rowElems H S with
      | none => rw [hb, hq] at h; simp only [copyB] at h; cases h
      | some q =>
        obtain ⟨k', xs⟩ := q
        rw [hb, hq] at h
        simp only [copyB] at h
        split at h
        · rename_i hc
          obtain ⟨c1, c2, c3, c4, c5, c6⟩ := hc
          subst c1
          cases h
          obtain ⟨Bx, cx, rfl, hrow⟩ := row_read hH hs hq
          have hne : xs ≠ [] := fun e => by rw [e] at c4; simp at c4
          obtain ⟨ax, rfl, hsx, hall⟩ := hrow hne
          obtain ⟨news, hnl, hnc, hnr⟩ := row_cells (by omega : 0 < 1) hall
          rw [Nat.mul_one] at hnl
          have hb' := hget_some hb
          obtain ⟨L, A, c, hL, h1, h2, hA, rfl⟩ := live_sl hH hd hb
          have qb := hH.blk id b L hb' hL
          have hlt : 0 < n := by rw [List.length_take] at c4; omega
          have hA' : A = some ⟨L.g, off, none⟩ := by
            rcases hA with hA | hA
            · omega
            · rw [hA, qb.kk, c2, Nat.mul_one]
          subst hA'
          have hvs : xs.take n = (news.take n).map AV.v := by
            apply List.ext_getElem?
            intro j
            rw [List.getElem?_map, List.getElem?_take, List.getElem?_take]
            split
            · rename_i hj
              cases hx : xs[j]? with
              | none =>
                have : news[j]? = none := List.getElem?_eq_none (by have := List.getElem?_eq_none_iff.1 hx; omega)
                rw [this]
                rfl
              | some u =>
                obtain ⟨x, rfl, hx1⟩ := allV_at c6 j u (by rw [List.getElem?_take, if_pos hj]; exact hx)
                obtain ⟨v, g1, g2, g3⟩ := hnr j (.v x) 0 (.v x) hx rfl
                rw [Nat.mul_one, Nat.add_zero] at g1
                rw [g1, vr_v g3]
                rfl
            · rfl
          have hone : ∀ v ∈ news.take n, (AV.v v).one = true := by
            intro v hv
            obtain ⟨j, hj⟩ := List.getElem?_of_mem hv
            have h3 : (xs.take n)[j]? = some (.v v) := by rw [hvs, List.getElem?_map, hj]; rfl
            obtain ⟨x, e1, e2⟩ := allV_at c6 j _ h3
            cases e1
            exact e2
          have hll : (xs.take n).length = (news.take n).length := by rw [hvs, List.length_map]
          obtain ⟨p1, p2, p3, p4⟩ := putN_hr (xs.take n) (news.take n) hH hb' hL c3 c2 off (by rw [List.length_take]; omega) hvs hone
          have hrun := run_copy_cells (P := P) w t t ty e L.g off n c ax xs.length cx (news.take n) hu hsz (by rw [List.length_take, hnl, Nat.min_comm]) (fun j v hv => by
            rw [add_spot hsx]
            rw [List.getElem?_take] at hv
            split at hv
            · exact (hnc j v hv).1
            · cases hv) p3 p4 (fun v hv => (VR.v (M := M) (w := w) (ρ := ρ) (c := v)).one (hone v hv))
          rw [hll]
          exact ⟨_, _, M, ρ, hrun, p1, p2, .v⟩
        · cases h
  · cases h
end Go.Proofs.YtlmjoimjdpfamaaGreat.Ev
namespace Go.Proofs.YtlmjoimjdpfamaaGreat.Ev
variable {P : Program} {base : Nat} {M : Nat → Prop} {ρ : Rho} {w : World}
theorem rnmL_some {g : AV → Option AV} : ∀ {cs ds : List AV}, rnmL g cs = some ds → ds.length = cs.length ∧ ∀ (i : Nat) (c d : AV), cs[i]? = some c → ds[i]? = some d → g c = some d
  | [], ds, h => by cases h; exact ⟨rfl, fun i c d h1 _ => by simp at h1⟩
  | a :: r, ds, h => by
    simp only [rnmL] at h
    obtain ⟨b, hb, h2⟩ := bind_iff.1 h
    obtain ⟨s, hs, h3⟩ := bind_iff.1 h2
    cases h3
    obtain ⟨h4, h5⟩ := rnmL_some hs
    refine ⟨by simp [h4], fun i c d h6 h7 => ?_⟩
    cases i with
    | zero => simp at h6 h7; subst h6; subst h7; exact hb
    | succ i => exact h5 i c d (by simpa using h6) (by simpa using h7)
/-- A map of names that keeps what they mean. -/
def Maps (f : Nat → Option Nat) (ρ ρ' : Rho) : Prop := ∀ (id i : Nat) (o : Option Loc), f id = some i → ρ[id]? = some o → ρ'[i]? = some o
theorem rnm_ok {f : Nat → Option Nat} {ρ' : Rho} (hf : Maps f ρ ρ') : ∀ (d : Nat) (a b : AV) (v : Value), rnm f d a = some b → VR M w ρ a v → VR M w ρ' b v
  | 0, a, b, v, h, _ => by cases h
  | d + 1, a, b, v, h, hv => by
    have ih := rnm_ok hf d
    cases a with
    | x => cases h
    | v c => cases h; obtain rfl := vr_v hv; exact .v
    | lst k xs =>
      cases h
      cases hv with
      | lst U hc ha hk hm hr => exact .lst U hc ha hk hm hr
    | el e j =>
      cases h
      cases hv with
      | el U hs hM hm hr => exact .el U hs hM hm hr
    | sl id off n =>
      obtain ⟨i, hi, h2⟩ := bind_iff.1 h
      cases h2
      cases hv with
      | sl L hL h1 h2 hA => exact .sl L (hf _ _ _ hi hL) h1 h2 hA
      | dsl h0 ho => exact .dsl (hf _ _ _ hi h0) ho
    | ptr id i j =>
      obtain ⟨n, hn, h2⟩ := bind_iff.1 h
      cases h2
      cases hv with
      | ptr L hL => exact .ptr L (hf _ _ _ hn hL)
      | dptr h0 ho => exact .dptr (hf _ _ _ hn h0) ho
    | agg cs =>
      obtain ⟨r, hr, h2⟩ := bind_iff.1 h
      cases h2
      obtain ⟨hl, hall⟩ := rnmL_some hr
      cases hv with
      | agg hl' ho hall' =>
        refine .agg (hl.trans hl') ho fun i c u h1 h2 => ?_
        obtain ⟨c0, hc0⟩ := get_of_len hl.symm h1
        exact ih c0 c u (hall i c0 c hc0 h1) (hall' i c0 u hc0 h2)
    | tup cs =>
      obtain ⟨r, hr, h2⟩ := bind_iff.1 h
      cases h2
      obtain ⟨hl, hall⟩ := rnmL_some hr
      cases hv with
      | tup hl' hall' =>
        refine .tup (hl.trans hl') fun i c u h1 h2 => ?_
        obtain ⟨c0, hc0⟩ := get_of_len hl.symm h1
        exact ih c0 c u (hall i c0 c hc0 h1) (hall' i c0 u hc0 h2)
    | fn g a b =>
      obtain ⟨p, hp, h2⟩ := bind_iff.1 h
      obtain ⟨q, hq, h3⟩ := bind_iff.1 h2
      cases h3
      obtain ⟨hl, hall⟩ := rnmL_some hp
      obtain ⟨hl2, hall2⟩ := rnmL_some hq
      cases hv with
      | fn hla hlb ha hb =>
        refine .fn (hl.trans hla) (hl2.trans hlb) (fun i c u h1 h2 => ?_) (fun i c u h1 h2 => ?_)
        · obtain ⟨c0, hc0⟩ := get_of_len hl.symm h1
          exact ih c0 c u (hall i c0 c hc0 h1) (ha i c0 u hc0 h2)
        · obtain ⟨c0, hc0⟩ := get_of_len hl2.symm h1
          exact ih c0 c u (hall2 i c0 c hc0 h1) (hb i c0 u hc0 h2)
/-- Renaming keeps the number of cells. -/
theorem rnm_cells {f : Nat → Option Nat} {d : Nat} {a b : AV} (h : rnm f d a = some b) : b.cells.length = a.cells.length ∧ ∀ (j : Nat) (x y : AV), a.cells[j]? = some x → b.cells[j]? = some y → ∃ d', rnm f d' x = some y := by
  have one : a.cells = [a] → b.cells = [b] → b.cells.length = a.cells.length ∧ ∀ (j : Nat) (x y : AV), a.cells[j]? = some x → b.cells[j]? = some y → ∃ d', rnm f d' x = some y := by
    intro h1 h2
    rw [h1, h2]
    refine ⟨rfl, fun j x y hx hy => ?_⟩
    cases j with
    | zero => simp at hx hy; subst hx; subst hy; exact ⟨d, h⟩
    | succ j => simp at hx
  cases d with
  | zero => cases h
  | succ d =>
    cases a with
    | x => cases h
    | v c => cases h; exact one rfl rfl
    | lst k xs => cases h; exact one rfl rfl
    | el e j => cases h; exact one rfl rfl
    | sl id off n =>
      have h' := h
      obtain ⟨i, hi, h2⟩ := bind_iff.1 h'
      cases h2
      exact one rfl rfl
    | ptr id i j =>
      have h' := h
      obtain ⟨i, hi, h2⟩ := bind_iff.1 h'
      cases h2
      exact one rfl rfl
    | agg cs =>
      obtain ⟨r, hr, h2⟩ := bind_iff.1 h
      cases h2
      obtain ⟨hl, hall⟩ := rnmL_some hr
      exact ⟨hl, fun j x y hx hy => ⟨d, hall j x y hx hy⟩⟩
    | tup cs =>
      have h' := h
      obtain ⟨r, hr, h2⟩ := bind_iff.1 h'
      cases h2
      exact one rfl rfl
    | fn g a b =>
      have h' := h
      obtain ⟨p, hp, h2⟩ := bind_iff.1 h'
      obtain ⟨q, hq, h3⟩ := bind_iff.1 h2
      cases h3
      exact one rfl rfl
theorem rnmB_br {f : Nat → Option Nat} {ρ' : Rho} (hf : Maps f ρ ρ') {b b' : Blk} (h : rnmB f b = some b') {L : Loc} (q : BR base M ρ w b L) : BR base M ρ' w b' L ∧ b'.ro = b.ro := by
  unfold rnmB at h
  obtain ⟨cur, fr, a1, a2, a3, a4⟩ := q.cur
  split at h
  · rename_i hk0
    obtain ⟨es, hes, h2⟩ := bind_iff.1 h
    cases h2
    obtain ⟨hl, hall⟩ := rnmL_some hes
    refine ⟨{ lo := q.lo, kk := q.kk, kp := q.kp, ro := q.ro, capm := q.capm, len := by rw [hl]; exact q.len, ek := fun i e he => ?_, cur := ⟨cur, fr, a1, a2, a3, fun i e j c he hc => ?_⟩ }, rfl⟩
    · obtain ⟨e0, he0⟩ := get_of_len hl.symm he
      have hr := hall i e0 e he0 he
      obtain ⟨hcl, hcc⟩ := rnm_cells hr
      obtain ⟨c0, hc0⟩ := get_of_len hcl.symm hc
      obtain ⟨u, d1, d2, d3⟩ := a4 i e0 j c0 he0 hc0
      simp only [hk0, if_true] at d3 ⊢
      obtain ⟨d', hd'⟩ := hcc j c0 c hc0 hc
      exact ⟨u, d1, d2, rnm_ok hf d' c0 c u hd' d3⟩
    · obtain ⟨e0, he0⟩ := get_of_len hl.symm he
      rw [(rnm_cells (hall i e0 e he0 he)).1]
      exact q.ek i e0 he0
  · rename_i hk0
    cases h
    refine ⟨{ lo := q.lo, kk := q.kk, kp := q.kp, ro := q.ro, capm := q.capm, len := q.len, ek := q.ek, cur := ⟨cur, fr, a1, a2, a3, fun i e j c he hc => ?_⟩ }, rfl⟩
    obtain ⟨u, d1, d2, d3⟩ := a4 i e j c he hc
    simp only [hk0, if_false] at d3 ⊢
    exact ⟨u, d1, d2, d3⟩
theorem rnmH_some {f : Nat → Option Nat} : ∀ {H H' : Hp}, rnmH f H = some H' → H'.length = H.length ∧ ∀ (i : Nat) (o o' : Option Blk), H[i]? = some o → H'[i]? = some o' → rnmO f o = some o'
  | [], H', h => by cases h; exact ⟨rfl, fun i c d h1 _ => by simp at h1⟩
  | a :: r, H', h => by
    simp only [rnmH] at h
    obtain ⟨b, hb, h2⟩ := bind_iff.1 h
    obtain ⟨s, hs, h3⟩ := bind_iff.1 h2
    cases h3
    obtain ⟨h4, h5⟩ := rnmH_some hs
    refine ⟨by simp [h4], fun i c d h6 h7 => ?_⟩
    cases i with
    | zero => simp at h6 h7; subst h6; subst h7; exact hb
    | succ i => exact h5 i c d (by simpa using h6) (by simpa using h7)
theorem rnmO_none {f : Nat → Option Nat} {o o' : Option Blk} (h : rnmO f o = some o') : (o' = none ↔ o = none) ∧ ∀ b', o' = some b' → ∃ b, o = some b ∧ rnmB f b = some b' := by
  cases o with
  | none => cases h; simp
  | some b =>
    obtain ⟨c, hc, h2⟩ := bind_iff.1 h
    cases h2
    exact ⟨by simp, fun b' h => by cases h; exact ⟨b, rfl, hc⟩⟩
/-- A state of chosen blocks, renamed. -/
theorem HR.select {H : Hp} (hH : HR base M ρ H w) {f : Nat → Option Nat} {ρ' : Rho} (hf : Maps f ρ ρ') {H' : Hp} (σ : Nat → Nat) (hlen : H'.length = ρ'.length) (hinj : ∀ i j, i < ρ'.length → j < ρ'.length → σ i = σ j → i = j)
    (hρ : ∀ i, i < ρ'.length → ρ'[i]? = ρ[σ i]?) (hHs : ∀ i, i < H'.length → ∃ o o', H[σ i]? = some o ∧ H'[i]? = some o' ∧ rnmO f o = some o') :
    HR base M ρ' H' w ∧ ∀ g, Wr ρ' H' g → Wr ρ H g := by
  have at_ : ∀ {i : Nat} {o' : Option Blk}, H'[i]? = some o' → i < ρ'.length ∧ ∃ o, H[σ i]? = some o ∧ rnmO f o = some o' := by
    intro i o' h
    have hi := (List.getElem?_eq_some_iff.1 h).1
    obtain ⟨o, o2, h1, h2, h3⟩ := hHs i hi
    rw [h] at h2
    cases h2
    exact ⟨by omega, o, h1, h3⟩
  have lt : ∀ {i : Nat} {o : Option Loc}, ρ'[i]? = some o → i < ρ'.length := fun h => (List.getElem?_eq_some_iff.1 h).1
  refine ⟨{ len := hlen, dead := fun i => ?_, blk := fun i b' L hb hL => ?_, inj := fun i j L L' h1 h2 hne => ?_, mlt := hH.mlt }, fun g hg => ?_⟩
  · constructor
    · intro h
      obtain ⟨hi, o, h1, h2⟩ := at_ h
      have := (rnmO_none h2).1.1 rfl
      subst this
      rw [hρ i hi]
      exact (hH.dead _).1 h1
    · intro h
      have hi := lt h
      obtain ⟨o, o', h1, h2, h3⟩ := hHs i (by omega)
      rw [hρ i hi, ← hH.dead, h1] at h
      cases h
      rw [h2, (rnmO_none h3).1.2 rfl]
  · obtain ⟨hi, o, h1, h2⟩ := at_ hb
    obtain ⟨b, rfl, h3⟩ := (rnmO_none h2).2 b' rfl
    rw [hρ i hi] at hL
    exact (rnmB_br hf h3 (hH.blk _ b L h1 hL)).1
  · have hi := lt h1
    have hj := lt h2
    rw [hρ i hi] at h1
    rw [hρ j hj] at h2
    exact hH.inj _ _ L L' h1 h2 (fun e => hne (hinj i j hi hj e))
  · obtain ⟨i, b', L, h1, h2, h3, rfl⟩ := hg
    obtain ⟨hi, o, h4, h5⟩ := at_ h1
    obtain ⟨b, rfl, h6⟩ := (rnmO_none h5).2 b' rfl
    rw [hρ i hi] at h3
    have := (rnmB_br hf h6 (hH.blk _ b L h4 h3)).2
    exact ⟨_, b, L, h4, by rw [← this]; exact h2, h3, rfl⟩
-- ---------------------------------------------------------------- the blocks that are kept
structure Acc (H : Hp) (h0 : Nat) (acc : List Nat) : Prop where
  ge : ∀ x ∈ acc, h0 ≤ x
  live : ∀ x ∈ acc, ∃ b, hget H x = some b
  nodup : acc.Nodup
theorem reach_acc (H : Hp) (h0 : Nat) : ∀ (d : Nat) (l acc : List Nat), Acc H h0 acc → Acc H h0 (reach H h0 d l acc)
  | 0, l, acc, h => h
  | d + 1, [], acc, h => h
  | d + 1, id :: r, acc, h => by
    simp only [reach]
    split
    · exact reach_acc H h0 d r acc h
    · rename_i hc
      split
      · exact reach_acc H h0 d r acc h
      · rename_i b hb
        simp only [Bool.or_eq_true, decide_eq_true_eq, List.contains_iff_mem, not_or] at hc
        refine reach_acc H h0 d _ _ ⟨fun x hx => ?_, fun x hx => ?_, ?_⟩
        · rcases List.mem_append.1 hx with hx | hx
          · exact h.ge x hx
          · simp at hx; omega
        · rcases List.mem_append.1 hx with hx | hx
          · exact h.live x hx
          · simp at hx; subst hx; exact ⟨b, hb⟩
        · rw [List.nodup_append]
          refine ⟨h.nodup, by simp, fun x hx y hy => ?_⟩
          simp at hy
          subst hy
          intro e
          subst e
          exact hc.2 hx
theorem picked_get (H : Hp) : ∀ (acc : List Nat) (i : Nat), (picked H acc)[i]? = (acc[i]?).map fun id => hget H id
  | [], i => by simp [picked]
  | a :: r, i => by
    cases i with
    | zero => simp [picked]
    | succ i => simp [picked, picked_get H r]
theorem picked_len (H : Hp) : ∀ (acc : List Nat), (picked H acc).length = acc.length
  | [] => rfl
  | a :: r => by simp [picked, picked_len H r]
def packρ (ρ : Rho) (h0 : Nat) (acc : List Nat) : Rho := ρ.take h0 ++ acc.map fun id => (ρ[id]?).getD none
theorem packH_sound {H : Hp} (hH : HR base M ρ H w) {h0 : Nat} (hh : h0 ≤ H.length) {roots acc : List Nat} {H' : Hp} (h : packH h0 H roots = some (acc, H')) :
    HR base M (packρ ρ h0 acc) H' w ∧ Maps (newId h0 acc) ρ (packρ ρ h0 acc) ∧ (∀ g, Wr (packρ ρ h0 acc) H' g → Wr ρ H g) ∧ ∀ id, id < h0 → (packρ ρ h0 acc)[id]? = ρ[id]? := by
  unfold packH at h
  simp only at h
  obtain ⟨acc0, hacc0⟩ : ∃ acc0, acc0 = reach H h0 64 (roots ++ oldIds (H.take h0)) [] := ⟨_, rfl⟩
  rw [← hacc0] at h
  have ha : Acc H h0 acc0 := by rw [hacc0]; exact reach_acc H h0 64 _ [] ⟨fun x hx => by simp at hx, fun x hx => by simp at hx, List.nodup_nil⟩
  cases hA : rnmH (newId h0 acc0) (H.take h0) with
  | none => rw [hA] at h; cases h
  | some A =>
    cases hBB : rnmH (newId h0 acc0) (picked H acc0) with
    | none => rw [hA, hBB] at h; cases h
    | some B =>
      rw [hA, hBB] at h
      cases h
      obtain ⟨lA, gA⟩ := rnmH_some hA
      obtain ⟨lB, gB⟩ := rnmH_some hBB
      have hρl : h0 ≤ ρ.length := by rw [← hH.len]; exact hh
      have htl : (ρ.take h0).length = h0 := by simp; omega
      have hAl : A.length = h0 := by rw [lA]; simp; omega
      have hlow : ∀ id, id < h0 → (packρ ρ h0 acc)[id]? = ρ[id]? := by
        intro id hid
        unfold packρ
        rw [List.getElem?_append_left (by omega), List.getElem?_take, if_pos hid]
      have hhigh : ∀ i id, acc[i]? = some id → (packρ ρ h0 acc)[h0 + i]? = ρ[id]? := by
        intro i id hi
        unfold packρ
        rw [List.getElem?_append_right (by omega), htl, Nat.add_sub_cancel_left, List.getElem?_map, hi]
        obtain ⟨b, hb⟩ := ha.live id (List.mem_of_getElem? hi)
        obtain ⟨L, hL, _⟩ := hH.loc (hget_some hb)
        simp [hL]
      have hmaps : Maps (newId h0 acc) ρ (packρ ρ h0 acc) := by
        intro id i o hi ho
        unfold newId at hi
        split at hi
        · rename_i hid
          cases hi
          rw [hlow id hid]
          exact ho
        · cases hx : acc.idxOf? id with
          | none => rw [hx] at hi; cases hi
          | some x =>
            rw [hx] at hi
            cases hi
            have : acc[x]? = some id := by
              rw [List.idxOf?_eq_some_iff] at hx
              obtain ⟨h1, h2, _⟩ := hx
              rw [List.getElem?_eq_getElem h1, h2]
            rw [hhigh x id this]
            exact ho
      have hlen : (packρ ρ h0 acc).length = h0 + acc.length := by unfold packρ; simp; omega
      have hsel := hH.select hmaps (H' := A ++ B) (fun i => if i < h0 then i else acc.getD (i - h0) 0) (by rw [hlen]; simp [hAl, lB, picked_len])
        (fun i j hi hj he => by
          rw [hlen] at hi hj
          have val : ∀ (k : Nat) (h1 : ¬ k < h0) (h2 : k < h0 + acc.length), acc.getD (k - h0) 0 = acc[k - h0]'(by omega) := fun k h1 h2 => by rw [List.getD_eq_getElem?_getD, List.getElem?_eq_getElem (by omega)]; rfl
          by_cases h1 : i < h0 <;> by_cases h2 : j < h0
          · rw [if_pos h1, if_pos h2] at he; exact he
          · rw [if_pos h1, if_neg h2, val j h2 hj] at he
            have := ha.ge _ (List.getElem_mem (by omega : j - h0 < acc.length))
            omega
          · rw [if_neg h1, if_pos h2, val i h1 hi] at he
            have := ha.ge _ (List.getElem_mem (by omega : i - h0 < acc.length))
            omega
          · rw [if_neg h1, if_neg h2, val i h1 hi, val j h2 hj] at he
            have hnd := List.pairwise_iff_getElem.1 ha.nodup
            rcases Nat.lt_trichotomy (i - h0) (j - h0) with hlt | hlt | hlt
            · exact absurd he (hnd _ _ _ _ hlt)
            · omega
            · exact absurd he.symm (hnd _ _ _ _ hlt))
        (fun i hi => by
          rw [hlen] at hi
          by_cases h1 : i < h0
          · rw [if_pos h1]; exact hlow i h1
          · rw [if_neg h1]
            have hx : acc[i - h0]? = some (acc.getD (i - h0) 0) := by rw [List.getD_eq_getElem?_getD, List.getElem?_eq_getElem (by omega)]; rfl
            have := hhigh (i - h0) _ hx
            rwa [show h0 + (i - h0) = i by omega] at this)
        (fun i hi => by
          have hi' : i < h0 + acc.length := by simp [hAl, lB, picked_len] at hi; exact hi
          by_cases h1 : i < h0
          · rw [if_pos h1]
            have e1 : (H.take h0)[i]? = some (H[i]'(by omega)) := by rw [List.getElem?_take, if_pos h1, List.getElem?_eq_getElem]
            have e2 : A[i]? = some (A[i]'(by omega)) := List.getElem?_eq_getElem _
            refine ⟨_, _, List.getElem?_eq_getElem (by omega), ?_, gA i _ _ e1 e2⟩
            rw [List.getElem?_append_left (by omega)]
            exact e2
          · rw [if_neg h1]
            have hx : acc[i - h0]? = some (acc.getD (i - h0) 0) := by rw [List.getD_eq_getElem?_getD, List.getElem?_eq_getElem (by omega)]; rfl
            obtain ⟨b, hb⟩ := ha.live _ (List.mem_of_getElem? hx)
            have e1 : (picked H acc)[i - h0]? = some (some b) := by rw [picked_get, hx, Option.map_some, hb]
            have hBlt : i - h0 < B.length := by rw [lB, picked_len]; omega
            have e2 : B[i - h0]? = some B[i - h0] := List.getElem?_eq_getElem _
            refine ⟨some b, _, hget_some hb, ?_, gB _ _ _ e1 e2⟩
            rw [List.getElem?_append_right (by omega), hAl]
            exact e2)
      exact ⟨hsel.1, hmaps, hsel.2, hlow⟩
theorem sget_keep (s : List (Nat × AV)) : ∀ (l : List Nat) (t : Nat), sget (keep s l) t = if l.contains t then sget s t else .x
  | [], t => rfl
  | u :: l, t => by
    simp only [keep, sget]
    by_cases h : u = t
    · subst h; simp
    · rw [if_neg h, sget_keep s l t]
      have h' : ¬ t = u := fun e => h e.symm
      simp [List.contains_cons, h']
theorem sget_renS {h0 : Nat} {acc : List Nat} {ρ' : Rho} (hf : Maps (newId h0 acc) ρ ρ') {a : Act} : ∀ (s : List (Nat × AV)), (∀ t, (∃ p ∈ s, p.1 = t) → ∀ p ∈ s, p.1 = t → VR M w ρ p.2 (a.tmps.getD t undef)) → ∀ t, VR M w ρ' (sget (renS h0 acc s) t) (a.tmps.getD t undef)
  | [], _, t => .x
  | (u, c) :: s, h, t => by
    have ih := sget_renS hf s (fun t _ p hp ht => h t ⟨p, by simp [hp], ht⟩ p (by simp [hp]) ht)
    simp only [renS]
    split
    · rename_i b hb
      simp only [sget]
      by_cases hu : u = t
      · subst hu
        rw [if_pos rfl]
        exact rnm_ok hf _ c b _ hb (h u ⟨(u, c), by simp, rfl⟩ (u, c) (by simp) rfl)
      · rw [if_neg hu]; exact ih t
    · exact ih t
theorem keep_mem (s : List (Nat × AV)) : ∀ (l : List Nat) (p : Nat × AV), p ∈ keep s l → p.2 = sget s p.1
  | [], p, h => by simp [keep] at h
  | u :: l, p, h => by
    simp only [keep, List.mem_cons] at h
    rcases h with rfl | h
    · rfl
    · exact keep_mem s l p h
theorem pack_sound {z y : St} {h0 : Nat} {li : List Nat} (h : pack h0 li z = some y) (hH : HR base M ρ z.h w) (hh : h0 ≤ z.h.length) {a : Act} (hS : SL M ρ w z.s a) :
    ∃ ρ', HR base M ρ' y.h w ∧ SL M ρ' w y.s a ∧ (∀ g, Wr ρ' y.h g → Wr ρ z.h g) ∧ (∀ id, id < h0 → ρ'[id]? = ρ[id]?) ∧ h0 ≤ y.h.length := by
  unfold pack at h
  cases hp : packH h0 z.h (slotIds (keep z.s li)) with
  | none => rw [hp] at h; cases h
  | some q =>
    obtain ⟨acc, H'⟩ := q
    rw [hp] at h
    cases h
    obtain ⟨p1, p2, p3, p4⟩ := packH_sound hH hh hp
    refine ⟨_, p1, sget_renS p2 _ (fun t _ p hp ht => ?_), p3, p4, ?_⟩
    · rw [keep_mem z.s li p hp, ht]
      exact hS t
    · have : h0 ≤ ρ.length := by rw [← hH.len]; exact hh
      rw [p1.len]
      unfold packρ
      simp
      omega
end Go.Proofs.YtlmjoimjdpfamaaGreat.Ev
namespace Go.Proofs.YtlmjoimjdpfamaaGreat.Ev
variable {P : Program} {base : Nat} {M : Nat → Prop} {ρ : Rho} {w : World}
/-- May a function be entered? -/
def Callable (P : Program) (f : Nat) : Prop := ∃ fn, P.funcs[f]? = some fn ∧ fn.body.isSome = true ∧ (fn.name != "runtime.NumGoroutine") = true
def Args (M : Nat → Prop) (ρ : Rho) (w : World) (as : List AV) (vs : Array Value) : Prop := as.length = vs.size ∧ ∀ (i : Nat) (c : AV) (u : Value), as[i]? = some c → vs.toList[i]? = some u → VR M w ρ c u
/-- What a callee owes. -/
def Ans (base : Nat) (M : Nat → Prop) (ρ : Rho) (H : Hp) (w : World) (res : AV) (H' : Hp) (e : Ending) (w' : World) : Prop :=
  ∃ v M' ρ', e = .returned v ∧ HR base M' ρ' H' w' ∧ Ext M ρ H w M' ρ' H' w' ∧ VR M' w' ρ' res v
/-- A fact on a world's first blocks. -/
structure Low (n0 : Nat) (G : World → Prop) : Prop where
  keep : ∀ w w' : World, G w → (∀ g, g < n0 → w'.heap[g]? = w.heap[g]?) → w'.os = w.os → w'.tape = w.tape → G w'
def CS (P : Program) (n0 : Nat) (G : World → Prop) (C : Clo) : Prop := ∀ (f : Nat) (as : List AV) (H : Hp) (res : AV) (H' : Hp), C f as H = some (res, H') → Callable P f ∧
  ∀ (base : Nat) (M : Nat → Prop) (ρ : Rho) (w : World) (vs : Array Value), G w → n0 ≤ base → base ≤ w.heap.size → HR base M ρ H w → Args M ρ w as vs → Calls P f vs w (Ans base M ρ H w res H')
theorem leaf_vr : ∀ (d : Nat) (a : AV) (v : Value), leaf d a = true → VR M w ρ a v → ∀ {M' : Nat → Prop} {w' : World} {ρ' : Rho}, VR M' w' ρ' a v
  | 0, a, v, h, _ => by simp [leaf] at h
  | d + 1, a, v, h, hv => by
    cases a with
    | v c => obtain rfl := vr_v hv; exact .v
    | agg cs =>
      cases hv with
      | agg hl ho hall => exact .agg hl ho fun i c u h1 h2 => leaf_vr d c u (okL_at (by simpa [leaf] using h) i c h1) (hall i c u h1 h2)
    | tup cs =>
      cases hv with
      | tup hl hall => exact .tup hl fun i c u h1 h2 => leaf_vr d c u (okL_at (by simpa [leaf] using h) i c h1) (hall i c u h1 h2)
    | _ => simp [leaf] at h
/-- Old blocks as they were. -/
theorem HR.extend {H : Hp} (hH : HR base M ρ H w) {w' : World} (hs : w.heap.size ≤ w'.heap.size) (old : ∀ g, g < w.heap.size → w'.heap[g]? = w.heap[g]?) {M' : Nat → Prop} (hM : ∀ g, M g → M' g) (hMn : ∀ g, g < w.heap.size → M' g → M g) (hlt : ∀ g, M' g → g < w'.heap.size) :
    HR base M' ρ H w' where
  len := hH.len
  dead := hH.dead
  inj := hH.inj
  mlt := hlt
  blk id b L hb hL := by
    have q := hH.blk id b L hb hL
    obtain ⟨cur, fr, a1, a2, a3, a4⟩ := q.cur
    exact { lo := q.lo, kk := q.kk, kp := q.kp, ro := q.ro.trans ⟨hM _, hMn _ q.lt⟩, capm := q.capm, len := q.len, ek := q.ek,
            cur := ⟨cur, fr, by rw [old _ q.lt]; exact a1, a2, a3, fun i e j c he hc => let ⟨u, d1, d2, d3⟩ := a4 i e j c he hc; ⟨u, d1, d2, d3.mono hM (fun g hg => old g (hH.mlt g hg)) (Rle.refl _)⟩⟩ }
theorem HR.empty (base : Nat) (hlt : ∀ g, M g → g < w.heap.size) : HR base M [] [] w where
  len := rfl
  dead id := by simp
  blk id b L h _ := by simp at h
  inj id id' L L' h := by simp at h
  mlt := hlt
theorem Wr.nil {g : Nat} (h : Wr [] [] g) : False := by
  obtain ⟨id, b, L, h, _⟩ := h
  simp at h
theorem wr_lt {H : Hp} (hH : HR base M ρ H w) {g : Nat} (h : Wr ρ H g) : base ≤ g ∧ g < w.heap.size := by
  obtain ⟨id, b, L, h1, _, h2, rfl⟩ := h
  have q := hH.blk id b L h1 h2
  exact ⟨q.lo, q.lt⟩
theorem Low.ext {n0 : Nat} {G : World → Prop} (hG : Low n0 G) {H : Hp} (hH : HR base M ρ H w) (hn : n0 ≤ base) (hb : base ≤ w.heap.size) (h : G w) {M' : Nat → Prop} {ρ' : Rho} {H' : Hp} {w' : World} (e : Ext M ρ H w M' ρ' H' w') : G w' :=
  hG.keep w w' h (fun g hg => e.keep g (by omega) (fun hw => by have := (wr_lt hH hw).1; omega)) e.os e.tape
/-- What is free of what was lent is so for any that is only read. -/
theorem free_M {M' : Nat → Prop} : ∀ (d : Nat) (a : AV) (v : Value), free d a = true → ∀ {ρ : Rho}, VR M w ρ a v → VR M' w ρ a v
  | 0, a, v, h, ρ, _ => by cases h
  | d + 1, a, v, h, ρ, hv => by
    have ih := free_M (M' := M') d
    cases hv with
    | x => exact .x
    | v => exact .v
    | sl L h1 h2 h3 h4 => exact .sl L h1 h2 h3 h4
    | dsl h1 h2 => exact .dsl h1 h2
    | ptr L h1 => exact .ptr L h1
    | dptr h1 h2 => exact .dptr h1 h2
    | @lst _ k xs A cap U hc ha hk hm hr =>
      have hx : xs = [] := by
        have h' : xs.isEmpty = true := h
        simpa using h'
      subst hx
      exact .lst U hc (fun hn => absurd rfl hn) (fun i e he => by simp at he) (fun a _ i e j c he => by simp at he) (fun i e j c he => by simp at he)
    | el => cases h
    | agg hl ho hr => exact .agg hl ho fun i c u h1 h2 => ih c u (okL_at (show okL (free d) _ = true from h) i c h1) (hr i c u h1 h2)
    | tup hl hr => exact .tup hl fun i c u h1 h2 => ih c u (okL_at (show okL (free d) _ = true from h) i c h1) (hr i c u h1 h2)
    | fn hla hlb ha hb =>
      have h' : (okL (free d) _ && okL (free d) _) = true := h
      rw [Bool.and_eq_true] at h'
      exact .fn hla hlb (fun i c u h1 h2 => ih c u (okL_at h'.1 i c h1) (ha i c u h1 h2)) (fun i c u h1 h2 => ih c u (okL_at h'.2 i c h1) (hb i c u h1 h2))
theorem free_cell {d : Nat} {e : AV} (h : free d e = true) : ∀ (j : Nat) (c : AV), e.cells[j]? = some c → ∃ d', free d' c = true := by
  intro j c hc
  cases d with
  | zero => cases h
  | succ d =>
    cases e with
    | agg cs => exact ⟨d, okL_at (show okL (free d) cs = true from h) j c hc⟩
    | _ =>
      cases j with
      | zero => simp [AV.cells] at hc; subst hc; exact ⟨d + 1, h⟩
      | succ j => simp [AV.cells] at hc
theorem freeH_at : ∀ {H : Hp}, freeH H = true → ∀ (id : Nat) (b : Blk), H[id]? = some (some b) → okL (free fzd) b.es = true
  | [], _, id, b, h => by simp at h
  | none :: r, hf, id, b, h => by
    cases id with
    | zero => simp at h
    | succ id => exact freeH_at (show freeH r = true from hf) id b (by simpa using h)
  | some c :: r, hf, id, b, h => by
    have hf' : (okL (free fzd) c.es && freeH r) = true := hf
    rw [Bool.and_eq_true] at hf'
    cases id with
    | zero => simp at h; subst h; exact hf'.1
    | succ id => exact freeH_at hf'.2 id b (by simpa using h)
/-- Blocks of their own, free of what was lent. -/
theorem HR.free {H : Hp} {b0 : Nat} (hH : HR b0 M ρ H w) (hf : freeH H = true) {M' : Nat → Prop} (hM : ∀ g, b0 ≤ g → (M' g ↔ M g)) (hlt : ∀ g, M' g → g < w.heap.size) : HR b0 M' ρ H w where
  len := hH.len
  dead := hH.dead
  inj := hH.inj
  mlt := hlt
  blk id b L hb hL := by
    have q := hH.blk id b L hb hL
    have hfb := freeH_at hf id b hb
    obtain ⟨cur, fr, a1, a2, a3, a4⟩ := q.cur
    exact { lo := q.lo, kk := q.kk, kp := q.kp, ro := q.ro.trans (hM _ q.lo).symm, capm := q.capm, len := q.len, ek := q.ek,
            cur := ⟨cur, fr, a1, a2, a3, fun i e j c he hc => by
              obtain ⟨u, d1, d2, d3⟩ := a4 i e j c he hc
              obtain ⟨d', hd'⟩ := free_cell (okL_at hfb i e he) j c hc
              exact ⟨u, d1, d2, free_M d' c u hd' d3⟩⟩ }
/-- A callee's blocks, put behind the caller's. -/
theorem callR_sound {H H1 : Hp} (hH : HR base M ρ H w) (hB : base ≤ w.heap.size) {a res : AV} {h H' : Hp} {MM : Nat → Prop} {ρ2 : Rho} {v : Value} {w' : World} (hr : callR H1 (rnm (addId H.length) fzd a) (rnmH (addId H.length) h) = some (res, H')) (hl2 : H1.length = H.length)
    (os : w'.os = w.os) (tape : w'.tape = w.tape) (output : w'.output = w.output) (size : w.heap.size ≤ w'.heap.size) (old : ∀ g, g < w.heap.size → w'.heap[g]? = w.heap[g]?) (m1' : HR base MM ρ H1 w') (h2 : HR w.heap.size MM ρ2 h w') (hv : VR MM w' ρ2 a v)
    (mle : ∀ g, M g → MM g) (mnew : ∀ g, MM g → M g ∨ Wr ρ H g ∨ w.heap.size ≤ g) (wr1 : ∀ g, Wr ρ H1 g → Wr ρ H g ∨ w.heap.size ≤ g) : Ans base M ρ H w res H' (.returned v) w' := by
  cases hra : rnm (addId H.length) fzd a with
  | none => rw [hra] at hr; cases hr
  | some a' =>
    cases hrh : rnmH (addId H.length) h with
    | none => rw [hra, hrh] at hr; cases hr
    | some h' =>
      rw [hra, hrh] at hr
      cases hr
      have hmap : Maps (addId H.length) ρ2 (ρ ++ ρ2) := by
        intro id i o hi ho
        cases hi
        rw [hH.len, List.getElem?_append_right (by omega), Nat.add_sub_cancel_left]
        exact ho
      obtain ⟨lh, gh⟩ := rnmH_some hrh
      have split : ∀ {id : Nat} {o : Option Blk}, (H1 ++ h')[id]? = some o → (id < H.length ∧ H1[id]? = some o) ∨ ∃ j o0, id = H.length + j ∧ h'[j]? = some o ∧ h[j]? = some o0 ∧ rnmO (addId H.length) o0 = some o := by
        intro id o ho
        by_cases hid : id < H.length
        · rw [List.getElem?_append_left (by omega)] at ho
          exact .inl ⟨hid, ho⟩
        · rw [List.getElem?_append_right (by omega), hl2] at ho
          obtain ⟨o0, h0⟩ := get_of_len lh.symm ho
          exact .inr ⟨id - H.length, o0, by omega, ho, h0, gh _ _ _ h0 ho⟩
      have ρlow : ∀ {id : Nat}, id < H.length → (ρ ++ ρ2)[id]? = ρ[id]? := fun hid => List.getElem?_append_left (by rw [← hH.len]; exact hid)
      have ρhigh : ∀ {j : Nat}, (ρ ++ ρ2)[H.length + j]? = ρ2[j]? := fun {j} => by rw [hH.len, List.getElem?_append_right (by omega), Nat.add_sub_cancel_left]
      have oldlt : ∀ {id : Nat} {L : Loc}, ρ[id]? = some (some L) → L.g < w.heap.size := fun h => by
        obtain ⟨b', hb'⟩ := hH.back h
        exact (hH.blk _ b' _ hb' h).lt
      have newge : ∀ {j : Nat} {L : Loc}, ρ2[j]? = some (some L) → w.heap.size ≤ L.g := fun h => by
        obtain ⟨b', hb'⟩ := h2.back h
        exact (h2.blk _ b' _ hb' h).lo
      have hHR : HR base MM (ρ ++ ρ2) (H1 ++ h') w' := by
        refine { len := by simp [hl2, lh, hH.len, h2.len], dead := fun id => ?_, blk := fun id b L hb hL => ?_, inj := fun id id' L L' q1 q2 hne => ?_, mlt := h2.mlt }
        · by_cases hid : id < H.length
          · rw [List.getElem?_append_left (by omega), ρlow hid]; exact m1'.dead id
          · obtain ⟨j, rfl⟩ : ∃ j, id = H.length + j := ⟨id - H.length, by omega⟩
            rw [ρhigh, List.getElem?_append_right (by omega), hl2, Nat.add_sub_cancel_left, ← h2.dead]
            constructor
            · intro hj
              obtain ⟨o0, h0⟩ := get_of_len lh.symm hj
              rw [h0, (rnmO_none (gh _ _ _ h0 hj)).1.1 rfl]
            · intro hj
              obtain ⟨o0, h0⟩ := get_of_len lh hj
              rw [h0, (rnmO_none (gh _ _ _ hj h0)).1.2 rfl]
        · rcases split hb with ⟨hid, hb'⟩ | ⟨j, o0, rfl, hb', h0, hro⟩
          · rw [ρlow hid] at hL
            have q := m1'.blk id b L hb' hL
            obtain ⟨cur, fr, a1, a2, a3, a4⟩ := q.cur
            exact { lo := q.lo, kk := q.kk, kp := q.kp, ro := q.ro, capm := q.capm, len := q.len, ek := q.ek,
                    cur := ⟨cur, fr, a1, a2, a3, fun i e j c he hc => by
                      obtain ⟨u, d1, d2, d3⟩ := a4 i e j c he hc
                      refine ⟨u, d1, d2, ?_⟩
                      split
                      · rename_i hk0; rw [if_pos hk0] at d3; exact d3.mono (fun _ h => h) (fun _ _ => rfl) (Rle.append _ _)
                      · rename_i hk0; rw [if_neg hk0] at d3; exact d3⟩ }
          · rw [ρhigh] at hL
            obtain ⟨b0, rfl, hrb⟩ := (rnmO_none hro).2 b rfl
            have q := (rnmB_br hmap hrb (h2.blk j b0 L h0 hL)).1
            exact { lo := Nat.le_trans hB q.lo, kk := q.kk, kp := q.kp, ro := q.ro, capm := q.capm, len := q.len, ek := q.ek, cur := q.cur }
        · by_cases i1 : id < H.length <;> by_cases i2 : id' < H.length
          · rw [ρlow i1] at q1; rw [ρlow i2] at q2; exact hH.inj id id' L L' q1 q2 hne
          · obtain ⟨j, rfl⟩ : ∃ j, id' = H.length + j := ⟨id' - H.length, by omega⟩
            rw [ρlow i1] at q1; rw [ρhigh] at q2
            have := oldlt q1; have := newge q2; omega
          · obtain ⟨j, rfl⟩ : ∃ j, id = H.length + j := ⟨id - H.length, by omega⟩
            rw [ρhigh] at q1; rw [ρlow i2] at q2
            have := oldlt q2; have := newge q1; omega
          · obtain ⟨j, rfl⟩ : ∃ j, id = H.length + j := ⟨id - H.length, by omega⟩
            obtain ⟨j', rfl⟩ : ∃ j', id' = H.length + j' := ⟨id' - H.length, by omega⟩
            rw [ρhigh] at q1 q2
            exact h2.inj j j' L L' q1 q2 (by omega)
      refine ⟨v, MM, ρ ++ ρ2, rfl, hHR, ⟨os, tape, output, size, fun g hg _ => old g hg, mle, mnew, fun g hg => ?_, Rle.append _ _⟩, rnm_ok hmap fzd a _ v hra hv⟩
      obtain ⟨id, b, L, g1, g2, g3, rfl⟩ := hg
      rcases split g1 with ⟨hid, hb'⟩ | ⟨j, o0, rfl, hb', h0, hro⟩
      · rw [ρlow hid] at g3
        exact wr1 L.g ⟨id, b, L, hb', g2, g3, rfl⟩
      · rw [ρhigh] at g3
        exact .inr (newge g3)
/-- A closed call's answer, in the caller's state. -/
theorem callH_sound {H : Hp} (hH : HR base M ρ H w) (hB : base ≤ w.heap.size) {l : List Nat} {a res : AV} {h H' : Hp} (hr : callH H l (some (a, h)) = some (res, H')) {e : Ending} {w' : World} (ha : Ans w.heap.size (Mu M ρ l) [] [] w a h e w') :
    Ans base M ρ H w res H' e w' := by
  obtain ⟨v, M2, ρ2, rfl, h2, e2, hv⟩ := ha
  have old : ∀ g, g < w.heap.size → w'.heap[g]? = w.heap[g]? := fun g hg => e2.keep g hg Wr.nil
  simp only [callH] at hr
  split at hr
  · rename_i hl
    cases hr
    unfold leafR at hl
    simp only [Bool.and_eq_true] at hl
    exact ⟨v, M, ρ, rfl, hH.extend e2.size old (fun _ h => h) (fun _ _ h => h) (fun g hg => by have := hH.mlt g hg; have := e2.size; omega), ⟨e2.os, e2.tape, e2.output, e2.size, fun g hg _ => old g hg, fun _ h => h, fun _ h => .inl h, fun _ h => .inl h, Rle.refl _⟩, leaf_vr _ a v hl.1 hv⟩
  · split at hr
    · rename_i hf
      rw [Bool.and_eq_true] at hf
      have hM3 : ∀ g, w.heap.size ≤ g → ((M g ∨ (M2 g ∧ w.heap.size ≤ g)) ↔ M2 g) := fun g hg => ⟨fun h => h.elim (fun h => by have := hH.mlt g h; omega) (fun h => h.1), fun h => .inr ⟨h, hg⟩⟩
      have hlt : ∀ g, (M g ∨ (M2 g ∧ w.heap.size ≤ g)) → g < w'.heap.size := fun g hg => hg.elim (fun h => by have := hH.mlt g h; have := e2.size; omega) (fun h => h2.mlt g h.1)
      refine callR_sound hH hB hr rfl e2.os e2.tape e2.output e2.size old (hH.extend (M' := fun g => M g ∨ (M2 g ∧ w.heap.size ≤ g)) e2.size old (fun _ h => .inl h) (fun g hg hm => hm.elim (fun h => h) (fun h => by omega)) hlt) (h2.free hf.2 hM3 hlt) (free_M _ a v hf.1 hv) (fun _ h => .inl h) (fun g hg => hg.elim .inl (fun h => .inr (.inr h.2))) (fun _ h => .inl h)
    · obtain ⟨m1, m2⟩ := hH.mark l
      have m1' : HR base M2 ρ (markRo l H) w' := m1.extend e2.size old e2.mle (fun g hg hm => by
        rcases e2.mnew g hm with h1 | h1 | h1
        · exact h1
        · exact absurd h1 Wr.nil
        · omega) h2.mlt
      refine callR_sound hH hB hr (markRo_len l H) e2.os e2.tape e2.output e2.size old m1' h2 hv (fun g hg => e2.mle g (.inl hg)) (fun g hg => ?_) (fun g hg => m2.wr g hg)
      rcases e2.mnew g hg with h1 | h1 | h1
      · rcases m2.mnew g h1 with h3 | h3 | h3
        · exact .inl h3
        · exact .inr (.inl h3)
        · exact .inr (.inr h3)
      · exact absurd h1 Wr.nil
      · exact .inr (.inr h1)
/-- A step in a region whose order is open: the state's blocks are as they were. -/
structure Soft (M : Nat → Prop) (w : World) (M' : Nat → Prop) (w' : World) : Prop where
  os : w'.os = w.os
  tape : w'.tape = w.tape
  output : w'.output = w.output
  size : w.heap.size ≤ w'.heap.size
  old : ∀ g, g < w.heap.size → w'.heap[g]? = w.heap[g]?
  mle : ∀ g, M g → M' g
  mnew : ∀ g, M' g → M g ∨ w.heap.size ≤ g
theorem Soft.refl (M : Nat → Prop) (w : World) : Soft M w M w := ⟨rfl, rfl, rfl, Nat.le_refl _, fun _ _ => rfl, fun _ h => h, fun _ h => .inl h⟩
theorem Soft.trans {M M' M'' : Nat → Prop} {w w' w'' : World} (h : Soft M w M' w') (k : Soft M' w' M'' w'') : Soft M w M'' w'' :=
  ⟨k.os.trans h.os, k.tape.trans h.tape, k.output.trans h.output, Nat.le_trans h.size k.size, fun g hg => (k.old g (Nat.lt_of_lt_of_le hg h.size)).trans (h.old g hg), fun g hg => k.mle g (h.mle g hg), fun g hg => by
    have := h.size
    rcases k.mnew g hg with h1 | h1
    · exact h.mnew g h1
    · exact .inr (by omega)⟩
theorem Soft.ext {H : Hp} (hH : HR base M ρ H w) {M' : Nat → Prop} {w' : World} (h : Soft M w M' w') : Ext M ρ H w M' ρ H w' :=
  ⟨h.os, h.tape, h.output, h.size, fun g hg _ => h.old g hg, h.mle, fun g hg => (h.mnew g hg).imp (fun x => x) .inr, fun _ h => .inl h, Rle.refl _⟩
theorem Soft.hr {H : Hp} (hH : HR base M ρ H w) {M' : Nat → Prop} {w' : World} (h : Soft M w M' w') (hlt : ∀ g, M' g → g < w'.heap.size) : HR base M' ρ H w' :=
  hH.extend h.size h.old h.mle (fun g hg hm => (h.mnew g hm).elim (fun x => x) (fun x => by omega)) hlt
theorem callSH_sound {H : Hp} (hH : HR base M ρ H w) {l : List Nat} {a res : AV} {h : Hp} (hr : callSH l (some (a, h)) = some res) {e : Ending} {w' : World} (ha : Ans w.heap.size (Mu M ρ l) [] [] w a h e w') :
    ∃ v M', e = .returned v ∧ Soft M w M' w' ∧ (∀ g, M' g → g < w'.heap.size) ∧ VR M' w' ρ res v := by
  obtain ⟨v, M2, ρ2, rfl, h2, e2, hv⟩ := ha
  have old : ∀ g, g < w.heap.size → w'.heap[g]? = w.heap[g]? := fun g hg => e2.keep g hg Wr.nil
  simp only [callSH] at hr
  split at hr
  · rename_i hl
    cases hr
    unfold leafR at hl
    simp only [Bool.and_eq_true] at hl
    exact ⟨v, M, rfl, ⟨e2.os, e2.tape, e2.output, e2.size, old, fun _ h => h, fun _ h => .inl h⟩, fun g hg => by have := hH.mlt g hg; have := e2.size; omega, leaf_vr _ a v hl.1 hv⟩
  · split at hr
    · rename_i hl
      subst hl
      obtain ⟨p, hp, h3⟩ := bind_iff.1 hr
      cases h3
      have hz := fz_ok h2 fzd a v p.1 p.2 hp hv
      refine ⟨v, Mu M2 ρ2 p.2, rfl, ⟨e2.os, e2.tape, e2.output, e2.size, old, fun g hg => .inl (e2.mle g (.inl hg)), fun g hg => ?_⟩, fun g hg => ?_, hz.up ρ⟩
      · rcases hg with hg | ⟨id, _, L, hL, rfl⟩
        · rcases e2.mnew g hg with h1 | h1 | h1
          · rcases h1 with h1 | ⟨x, hx, _⟩
            · exact .inl h1
            · cases hx
          · exact absurd h1 Wr.nil
          · exact .inr h1
        · obtain ⟨b, hb⟩ := h2.back hL
          exact .inr (h2.blk _ b _ hb hL).lo
      · rcases hg with hg | ⟨id, _, L, hL, rfl⟩
        · exact h2.mlt g hg
        · obtain ⟨b, hb⟩ := h2.back hL
          exact (h2.blk _ b _ hb hL).lt
    · split at hr
      · rename_i hf
        rw [Bool.and_eq_true] at hf
        obtain ⟨p, hp, h3⟩ := bind_iff.1 hr
        cases h3
        have hM3 : ∀ g, w.heap.size ≤ g → ((M g ∨ (M2 g ∧ w.heap.size ≤ g)) ↔ M2 g) := fun g hg => ⟨fun h => h.elim (fun h => by have := hH.mlt g h; omega) (fun h => h.1), fun h => .inr ⟨h, hg⟩⟩
        have hlt : ∀ g, (M g ∨ (M2 g ∧ w.heap.size ≤ g)) → g < w'.heap.size := fun g hg => hg.elim (fun h => by have := hH.mlt g h; have := e2.size; omega) (fun h => h2.mlt g h.1)
        have h2' := h2.free hf.2 hM3 hlt
        have hz := fz_ok h2' fzd a v p.1 p.2 hp (free_M _ a v hf.1 hv)
        refine ⟨v, Mu (fun g => M g ∨ (M2 g ∧ w.heap.size ≤ g)) ρ2 p.2, rfl, ⟨e2.os, e2.tape, e2.output, e2.size, old, fun g hg => .inl (.inl hg), fun g hg => ?_⟩, fun g hg => ?_, hz.up ρ⟩
        · rcases hg with hg | ⟨id, _, L, hL, rfl⟩
          · exact hg.imp (fun x => x) (fun x => x.2)
          · obtain ⟨b, hb⟩ := h2.back hL
            exact .inr (h2.blk _ b _ hb hL).lo
        · rcases hg with hg | ⟨id, _, L, hL, rfl⟩
          · exact hlt g hg
          · obtain ⟨b, hb⟩ := h2.back hL
            exact (h2.blk _ b _ hb hL).lt
      · cases hr
theorem fz_args {H : Hp} (hH : HR base M ρ H w) {as as' : List AV} {l : List Nat} (h : fzL (fz H fzd) as = some (as', l)) {vs : Array Value} (hv : Args M ρ w as vs) : Args (Mu M ρ l) [] w as' vs := by
  have hl := fzL_len h
  refine ⟨hl.trans hv.1, fun i c u h1 h2 => ?_⟩
  obtain ⟨c0, hc0⟩ := get_of_len hl.symm h1
  exact fzL_ok (fz_ok hH fzd) h i c0 c u hc0 h1 (hv.2 i c0 u hc0 h2)
theorem callF_sound {E : Env} {n0 : Nat} {G : World → Prop} {C : Clo} (hC : CS P n0 G C) {f : Nat} {as : List AV} {H : Hp} {res : AV} {H' : Hp} (h : callF E C f as H = some (res, H')) : Callable P f ∧
    ∀ (base : Nat) (M : Nat → Prop) (ρ : Rho) (w : World) (vs : Array Value), G w → n0 ≤ base → base ≤ w.heap.size → HR base M ρ H w → Args M ρ w as vs → Calls P f vs w (Ans base M ρ H w res H') := by
  unfold callF at h
  split at h
  · exact hC f as H res H' h
  · cases hq : fzL (fz H fzd) as with
    | none => rw [hq] at h; cases h
    | some q =>
      obtain ⟨as', l⟩ := q
      rw [hq] at h
      simp only [callG] at h
      cases hr : C f as' [] with
      | none => rw [hr] at h; cases h
      | some r =>
        obtain ⟨a, hh⟩ := r
        rw [hr] at h
        obtain ⟨c1, c2⟩ := hC f as' [] a hh hr
        refine ⟨c1, fun base M ρ w vs hG hn hB hH hv => ?_⟩
        exact (c2 w.heap.size (Mu M ρ l) [] w vs hG (Nat.le_trans hn hB) (Nat.le_refl _) (HR.empty _ (hH.mark l).1.mlt) (fz_args hH hq hv)).mono fun e w' ha => callH_sound hH hB h ha
theorem callS_sound {E : Env} {n0 : Nat} {G : World → Prop} {C : Clo} (hC : CS P n0 G C) {f : Nat} {as : List AV} {H : Hp} {res : AV} (h : callS E C f as H = some res) : Callable P f ∧
    ∀ (base : Nat) (M : Nat → Prop) (ρ : Rho) (w : World) (vs : Array Value), G w → n0 ≤ base → base ≤ w.heap.size → HR base M ρ H w → Args M ρ w as vs →
      Calls P f vs w fun e w' => ∃ v M', e = .returned v ∧ Soft M w M' w' ∧ (∀ g, M' g → g < w'.heap.size) ∧ VR M' w' ρ res v := by
  unfold callS at h
  split at h
  · cases h
  · cases hq : fzL (fz H fzd) as with
    | none => rw [hq] at h; cases h
    | some q =>
      obtain ⟨as', l⟩ := q
      rw [hq] at h
      simp only [callSG] at h
      cases hr : C f as' [] with
      | none => rw [hr] at h; cases h
      | some r =>
        obtain ⟨a, hh⟩ := r
        rw [hr] at h
        obtain ⟨c1, c2⟩ := hC f as' [] a hh hr
        refine ⟨c1, fun base M ρ w vs hG hn hB hH hv => ?_⟩
        exact (c2 w.heap.size (Mu M ρ l) [] w vs hG (Nat.le_trans hn hB) (Nat.le_refl _) (HR.empty _ (hH.mark l).1.mlt) (fz_args hH hq hv)).mono fun e w' ha => callSH_sound hH h ha
end Go.Proofs.YtlmjoimjdpfamaaGreat.Ev
namespace Go.Proofs.YtlmjoimjdpfamaaGreat.Ev
variable {P : Program} {base : Nat} {M : Nat → Prop} {ρ : Rho} {w : World}
/-- What stands behind an operation that makes or writes memory, but is no call. -/
def Gives (P : Program) (base : Nat) (M : Nat → Prop) (ρ : Rho) (H : Hp) (w : World) (o : Oper) (a : Act) (av : AV) (H' : Hp) : Prop :=
  ∃ v w' M' ρ', ((execOp a.eval o).run P w = .ok (.value v) w' ∨ (execOp a.eval o).run P w = .ok .skip w' ∧ v = undef) ∧ HR base M' ρ' H' w' ∧ Ext M ρ H w M' ρ' H' w' ∧ VR M' w' ρ' av v
theorem Does.gives {S : Sem Value} {H H' : Hp} {o : Oper} {a : Act} {av : AV} (he : execOp a.eval o = (do pure (.value (← S)) : Sem Next)) (h : Does P base M ρ H w S av H') : Gives P base M ρ H w o a av H' := by
  obtain ⟨v, w', M', ρ', h1, h2, h3, h4⟩ := h
  exact ⟨v, w', M', ρ', .inl (by rw [he]; exact run_value h1), h2, h3, h4⟩
def isCall : LOp → Bool
  | .call .. | .callv .. => true
  | _ => false
theorem opd_mem {s : List (Nat × AV)} {a : Act} {xs : List Operand} (h : Opd M ρ w s a xs) {x : Operand} (hx : x ∈ xs) : VR M w ρ ((loOf x).ev s) (a.eval x) := h x hx
theorem pure_gives {z : St} {a : Act} (hH : HR base M ρ z.h w) {o : Oper} (hS : Opd M ρ w z.s a o.op.operands.toList) {l : LOp} (hc : compOp P o.op = some l) {av : AV} {H' : Hp} (he : withH z.h (pureOp z l) = some (av, H')) : Gives P base M ρ z.h w o a av H' := by
  cases hp : pureOp z l with
  | none => rw [hp] at he; cases he
  | some x =>
    rw [hp] at he
    cases he
    obtain ⟨v, h1, h2⟩ := pure_sound hH hS hc hp
    exact ⟨v, w, M, ρ, .inl h1, hH, Ext.refl _ _ _ _, h2⟩
set_option maxHeartbeats 4000000 in
theorem full_gives {E : Env} {C : Clo} {z : St} {a : Act} (hH : HR base M ρ z.h w) (hB : base ≤ w.heap.size) {o : Oper} (hS : Opd M ρ w z.s a o.op.operands.toList) {l : LOp} (hc : compOp P o.op = some l) (hn : isCall l = false) {av : AV} {H' : Hp}
    (he : fullOp E C z l = some (av, H')) : Gives P base M ρ z.h w o a av H' := by
  have pure_case : fullOp E C z l = withH z.h (pureOp z l) → Gives P base M ρ z.h w o a av H' := fun h => pure_gives hH hS hc (h ▸ he)
  cases hop : o.op with
  | alloc e =>
    rw [hop] at hc
    obtain ⟨k, hk, h2⟩ := bind_iff.1 hc
    obtain ⟨zs, hz, h3⟩ := bind_iff.1 h2
    obtain ⟨ag, _, h4⟩ := bind_iff.1 h3
    cases h4
    have he' : some (AV.ptr z.h.length 0 0, z.h ++ [some (⟨e, k, 0, false, [.agg zs]⟩ : Blk)]) = some (av, H') := he
    cases he'
    exact (alloc_sound hH hB hk hz).gives (S := Instr.alloc e true (.tuple #[])) (by unfold execOp; rw [hop])
  | box e x =>
    rw [hop] at hc
    obtain ⟨k, hk, h2⟩ := bind_iff.1 hc
    cases h2
    have he' : boxA e k z.h ((loOf x).ev z.s) = some (av, H') := he
    have hx := hS x (by rw [hop]; simp [Op.operands])
    exact (box_sound hH hB hk hx he').gives (S := Instr.box e (a.eval x)) (by unfold execOp; rw [hop])
  | buildSlice t n parts =>
    rw [hop] at hc
    have hl : ∃ e k, l = .bslice e k (parts.toList.map fun p => loOf p.2) := by
      simp only [compOp] at hc
      split at hc
      · obtain ⟨k, _, h2⟩ := bind_iff.1 hc
        obtain ⟨z0, _, h3⟩ := bind_iff.1 h2
        split at h3
        · exact ⟨_, _, (Option.some.inj h3).symm⟩
        · cases h3
      · cases hc
    obtain ⟨e, k, rfl⟩ := hl
    have he' : bsliceA e k z.h (fzL (fz z.h fzd) (evs z.s (parts.toList.map fun p => loOf p.2))) = some (av, H') := he
    have hS' : Opd M ρ w z.s a (parts.toList.map (·.2)) := fun x hx => hS x (by rw [hop]; simpa [Op.operands] using hx)
    exact (bslice_sound hH hB hS' hc he').gives (S := Instr.buildSlice t n (parts.map fun (i, x) => (i, a.eval x))) (by unfold execOp; rw [hop])
  | store t x y =>
    rw [hop] at hc
    obtain ⟨k, hk, h2⟩ := bind_iff.1 hc
    obtain ⟨ag, _, h3⟩ := bind_iff.1 h2
    cases h3
    simp only [fullOp] at he
    cases hs : storeA z.h k ag ((loOf x).ev z.s) ((loOf y).ev z.s) with
    | none => rw [hs] at he; cases he
    | some H =>
      rw [hs] at he
      cases he
      obtain ⟨w', M', ρ', h1, h2, h3⟩ := store_sound (P := P) (t := t) hH hk (hS x (by rw [hop]; simp [Op.operands])) (hS y (by rw [hop]; simp [Op.operands])) hs
      exact ⟨undef, w', M', ρ', .inr ⟨by unfold execOp; rw [hop]; exact run_unit h1, rfl⟩, h2, h3, .x⟩
  | makeSlice t x y =>
    rw [hop] at hc
    simp only [compOp] at hc
    split at hc
    · rename_i e hu
      obtain ⟨k, hk, h2⟩ := bind_iff.1 hc
      obtain ⟨b, hb, h3⟩ := bind_iff.1 h2
      obtain ⟨zz, hz, h4⟩ := bind_iff.1 h3
      cases h4
      have he' : mksliceA e k b zz z.h ((loOf x).ev z.s) ((loOf y).ev z.s) = some (av, H') := he
      have hx := hS x (by rw [hop]; simp [Op.operands])
      have hy := hS y (by rw [hop]; simp [Op.operands])
      exact (mkslice_sound hH hB hu hk hb hz hx hy he').gives (S := Instr.makeSlice t (a.eval x) (a.eval y)) (by unfold execOp; rw [hop])
    · cases hc
  | convert s d x =>
    rw [hop] at hc
    have hc' := hc
    simp only [compOp] at hc
    split at hc
    · cases hc; exact pure_case rfl
    · cases hc; exact pure_case rfl
    · rename_i e h1 h2
      split at hc
      · rename_i h3
        cases hc
        have he' : s2bA e z.h ((loOf x).ev z.s) = some (av, H') := he
        have hx := hS x (by rw [hop]; simp [Op.operands])
        exact (s2b_sound hH hB h1 h2 h3 hx he').gives (S := Go.convert s d (a.eval x)) (by unfold execOp; rw [hop])
      · cases hc
    · split at hc
      · cases hc; exact pure_case rfl
      · cases hc
    · cases hc
  | call c =>
    rw [hop] at hc
    have hc0 : compOp P o.op = compCall P c := by rw [hop]; rfl
    have hc' : compCall P c = some l := hc
    unfold compCall at hc'
    split at hc'
    · cases hc'; cases hn
    · cases hc'; cases hn
    · split at hc'
      · split at hc' <;> first | (cases hc'; exact pure_case rfl) | cases hc'
      · cases hc'
    · split at hc'
      · split at hc' <;> first | (cases hc'; exact pure_case rfl) | cases hc'
      · cases hc'
    · rename_i hb
      split at hc'
      · rename_i s x t u hargs htys
        split at hc'
        · rename_i htu
          subst htu
          split at hc'
          · rename_i e hu
            obtain ⟨k, hk, h2⟩ := bind_iff.1 hc'
            obtain ⟨b, hbb, h3⟩ := bind_iff.1 h2
            obtain ⟨zs, hz, h4⟩ := bind_iff.1 h3
            split at h4
            · rename_i hzl
              cases h4
              obtain ⟨i, hi, rfl, hk0⟩ := szOf_some hk
              obtain ⟨i', z0, hi', hiz, hsz, rfl, hone⟩ := zeroOf_some hz
              rw [hi] at hi'
              cases hi'
              have hbi : b = i.bytes := by
                unfold bytesOfT at hbb
                rw [hi] at hbb
                simpa using hbb.symm
              subst hbi
              have hA : c.args = #[s, x] := by apply Array.ext'; simpa using hargs
              have hT : c.argTypes = #[t, t] := by apply Array.ext'; simpa using htys
              have hs : VR M w ρ ((loOf s).ev z.s) (a.eval s) := hS s (by rw [hop]; simp [Op.operands, Call.operands, hb, hA])
              have hx : VR M w ρ ((loOf x).ev z.s) (a.eval x) := hS x (by rw [hop]; simp [Op.operands, Call.operands, hb, hA])
              have he' : appendA z.h e i.size i.bytes ((loOf s).ev z.s) ((loOf x).ev z.s) = some (av, H') := he
              obtain ⟨v, w', M', ρ', r1, r2, r3, r4⟩ := append_sound (P := P) (ty := o.type) hH hB hu hi hiz hsz hk0 hs hx he'
              refine ⟨v, w', M', ρ', .inl ?_, r2, r3, r4⟩
              rw [call_builtin hop hb a.eval, hA, hT]
              simp only [Go.builtin, pure_bind]
              exact run_value (by simpa using r1)
            · cases h4
          · cases hc'
        · split at hc'
          · rename_i e kn hu htn
            obtain ⟨k, hk, h2⟩ := bind_iff.1 hc'
            obtain ⟨b, hbb, h3⟩ := bind_iff.1 h2
            obtain ⟨zz, hz, h4⟩ := bind_iff.1 h3
            cases h4
            have hA : c.args = #[s, x] := by apply Array.ext'; simpa using hargs
            have hT : c.argTypes = #[t, u] := by apply Array.ext'; simpa using htys
            have hs : VR M w ρ ((loOf s).ev z.s) (a.eval s) := hS s (by rw [hop]; simp [Op.operands, Call.operands, hb, hA])
            have hx : VR M w ρ ((loOf x).ev z.s) (a.eval x) := hS x (by rw [hop]; simp [Op.operands, Call.operands, hb, hA])
            have he' : mkappA e k b zz z.h ((loOf s).ev z.s) ((loOf x).ev z.s) = some (av, H') := he
            obtain ⟨v, w', M', ρ', r1, r2, r3, r4⟩ := mkapp_sound (P := P) (ty := o.type) hH hB hu htn hk hbb hz hs hx he'
            refine ⟨v, w', M', ρ', .inl ?_, r2, r3, r4⟩
            rw [call_builtin hop hb a.eval, hA, hT]
            simp only [Go.builtin, pure_bind]
            exact run_value (by simpa using r1)
          · cases hc'
      · cases hc'
    · rename_i hb
      split at hc'
      · rename_i s x t u hargs htys
        split at hc'
        · rename_i htu
          subst htu
          split at hc'
          · rename_i e hu
            obtain ⟨k, hk, h2⟩ := bind_iff.1 hc'
            split at h2
            · rename_i hk1
              subst hk1
              cases h2
              have hA : c.args = #[s, x] := by apply Array.ext'; simpa using hargs
              have hT : c.argTypes = #[t, t] := by apply Array.ext'; simpa using htys
              have hs : VR M w ρ ((loOf s).ev z.s) (a.eval s) := hS s (by rw [hop]; simp [Op.operands, Call.operands, hb, hA])
              have hx : VR M w ρ ((loOf x).ev z.s) (a.eval x) := hS x (by rw [hop]; simp [Op.operands, Call.operands, hb, hA])
              have he' : copyA z.h ((loOf s).ev z.s) ((loOf x).ev z.s) = some (av, H') := he
              obtain ⟨v, w', M', ρ', r1, r2, r3, r4⟩ := copy_sound (P := P) (ty := o.type) hH hu hk hs hx he'
              refine ⟨v, w', M', ρ', .inl ?_, r2, r3, r4⟩
              rw [call_builtin hop hb a.eval, hA, hT]
              simp only [Go.builtin, pure_bind]
              exact run_value (by simpa using r1)
            · cases h2
          · cases hc'
        · cases hc'
      · cases hc'
    · cases hc'; exact pure_case rfl
    · cases hc'; exact pure_case rfl
    · cases hc'
  | move x => rw [hop] at hc; cases hc; exact pure_case rfl
  | assign x => rw [hop] at hc; cases hc; exact pure_case rfl
  | pick c x y => rw [hop] at hc; cases hc; exact pure_case rfl
  | build t parts =>
    rw [hop] at hc
    have hl : ∃ zs ps, l = .build zs ps := by
      simp only [compOp] at hc
      obtain ⟨zs, _, h2⟩ := bind_iff.1 hc
      split at h2
      · split at h2
        · obtain ⟨ps, _, h3⟩ := bind_iff.1 h2; cases h3; exact ⟨_, ps, rfl⟩
        · cases h2
      · obtain ⟨k, _, h3⟩ := bind_iff.1 h2; cases h3; exact ⟨_, _, rfl⟩
      · cases h2
    obtain ⟨zs, ps, rfl⟩ := hl
    exact pure_case rfl
  | load t x =>
    rw [hop] at hc
    obtain ⟨k, _, h2⟩ := bind_iff.1 hc
    obtain ⟨ag, _, h3⟩ := bind_iff.1 h2
    cases h3
    exact pure_case rfl
  | nilCheck x => rw [hop] at hc; cases hc; exact pure_case rfl
  | binOp op t x y ty =>
    rw [hop] at hc
    simp only [compOp] at hc
    split at hc <;> first | (cases hc; exact pure_case rfl) | (obtain ⟨_, _, hc⟩ := bind_iff.1 hc; cases hc; exact pure_case rfl) | cases hc
  | unOp op t x => rw [hop] at hc; cases hc; exact pure_case rfl
  | makeFunc f x y => rw [hop] at hc; cases hc; exact pure_case rfl
  | slice t x lo hi mx =>
    rw [hop] at hc
    cases mx with
    | some m => cases hc
    | none =>
      simp only [compOp] at hc
      split at hc
      · cases hc; exact pure_case rfl
      · obtain ⟨k, _, h2⟩ := bind_iff.1 hc; cases h2; exact pure_case rfl
      · rename_i n e hu
        split at hc
        · rename_i hnn
          obtain ⟨k, hk, h2⟩ := bind_iff.1 hc
          split at h2
          · rename_i hk1
            cases h2
            subst hk1
            obtain rfl : lo = none := by simpa using hnn.1
            obtain rfl : hi = none := by simpa using hnn.2
            exact (aslice_sound hH hu hk (hS x (by rw [hop]; simp [Op.operands])) he).gives (S := Instr.sliceAt t (a.eval x) none none none) (by unfold execOp; rw [hop]; rfl)
          · cases h2
        · cases hc
      · cases hc
  | fieldAddr t x f =>
    rw [hop] at hc
    simp only [compOp] at hc
    split at hc
    · obtain ⟨g, _, h2⟩ := bind_iff.1 hc
      obtain ⟨k, _, h3⟩ := bind_iff.1 h2
      cases h3
      exact pure_case rfl
    · cases hc
  | field t x f =>
    rw [hop] at hc
    simp only [compOp] at hc
    split at hc
    · obtain ⟨g, _, h2⟩ := bind_iff.1 hc
      obtain ⟨k, _, h3⟩ := bind_iff.1 h2
      obtain ⟨ag, _, h4⟩ := bind_iff.1 h3
      cases h4
      exact pure_case rfl
    · cases hc
  | indexAddr t x i =>
    rw [hop] at hc
    simp only [compOp] at hc
    split at hc
    · obtain ⟨k, _, h2⟩ := bind_iff.1 hc; cases h2; exact pure_case rfl
    · obtain ⟨k, _, h2⟩ := bind_iff.1 hc; cases h2; exact pure_case rfl
    · cases hc
  | index t x i =>
    rw [hop] at hc
    simp only [compOp] at hc
    split at hc
    · cases hc; exact pure_case rfl
    · obtain ⟨k, _, h2⟩ := bind_iff.1 hc
      obtain ⟨ag, _, h3⟩ := bind_iff.1 h2
      cases h3
      exact pure_case rfl
    · cases hc
  | extract x i => rw [hop] at hc; cases hc; exact pure_case rfl
  | _ => rw [hop] at hc; cases hc
/-- Calls of functions and of function values. -/
theorem exec_call {o : Oper} {c : Call} (ho : o.op = .call c) {a : Act} {x : Operand} (hcal : c.callee = .value x) {g : Nat} {va vb : Array Value} (hx : a.eval x = .func (.func g) va vb) (hg : Callable P g) :
    (execOp a.eval o).run P w = .ok (.enter g (va ++ c.args.map a.eval ++ vb)) w := by
  obtain ⟨fn, h1, h2, h3⟩ := hg
  have h3' : (fn.name == "runtime.NumGoroutine") = false := by simpa [bne] using h3
  have h2' : fn.body.isNone = false := by cases hb : fn.body <;> simp_all
  unfold execOp
  rw [ho]
  simp only [resolve, hcal, hx, Deferred.ofValue, pure_bind, invoke, callFunc, Sem.run_bind, run_program, Result.andThen_ok, h1, h3', h2', Bool.false_eq_true, if_false, Sem.run_pure]
theorem args_of {s : List (Nat × AV)} {a : Act} (xs : Array Operand) (hS : Opd M ρ w s a xs.toList) : Args M ρ w (evs s (xs.toList.map loOf)) (xs.map a.eval) := vr_args xs hS
theorem Args.append {as bs : List AV} {us vs : Array Value} (h : Args M ρ w as us) (k : Args M ρ w bs vs) : Args M ρ w (as ++ bs) (us ++ vs) := by
  refine ⟨by simp [h.1, k.1], fun i c u h1 h2 => ?_⟩
  rw [Array.toList_append] at h2
  by_cases hi : i < as.length
  · rw [List.getElem?_append_left hi] at h1
    rw [List.getElem?_append_left (by rw [Array.length_toList]; have := h.1; omega)] at h2
    exact h.2 i c u h1 h2
  · have := h.1
    rw [List.getElem?_append_right (by omega)] at h1
    rw [List.getElem?_append_right (by rw [Array.length_toList]; omega), Array.length_toList, ← this] at h2
    exact k.2 _ c u h1 h2
theorem comp_shape {op : Op} {l : LOp} (hc : compOp P op = some l) : (∃ c, op = .call c) ∨ isCall l = false := by
  cases op with
  | call c => exact .inl ⟨c, rfl⟩
  | move x => cases hc; exact .inr rfl
  | assign x => cases hc; exact .inr rfl
  | pick c x y => cases hc; exact .inr rfl
  | alloc e =>
    obtain ⟨k, _, h2⟩ := bind_iff.1 hc
    obtain ⟨zs, _, h3⟩ := bind_iff.1 h2
    obtain ⟨ag, _, h4⟩ := bind_iff.1 h3
    cases h4; exact .inr rfl
  | box e x => obtain ⟨k, _, h2⟩ := bind_iff.1 hc; cases h2; exact .inr rfl
  | build t parts =>
    simp only [compOp] at hc
    obtain ⟨zs, _, h2⟩ := bind_iff.1 hc
    split at h2
    · split at h2
      · obtain ⟨ps, _, h3⟩ := bind_iff.1 h2; cases h3; exact .inr rfl
      · cases h2
    · obtain ⟨k, _, h3⟩ := bind_iff.1 h2; cases h3; exact .inr rfl
    · cases h2
  | buildSlice t n parts =>
    simp only [compOp] at hc
    split at hc
    · obtain ⟨k, _, h2⟩ := bind_iff.1 hc
      obtain ⟨z0, _, h3⟩ := bind_iff.1 h2
      split at h3
      · cases h3; exact .inr rfl
      · cases h3
    · cases hc
  | load t x =>
    obtain ⟨k, _, h2⟩ := bind_iff.1 hc
    obtain ⟨ag, _, h3⟩ := bind_iff.1 h2
    cases h3; exact .inr rfl
  | store t x y =>
    obtain ⟨k, _, h2⟩ := bind_iff.1 hc
    obtain ⟨ag, _, h3⟩ := bind_iff.1 h2
    cases h3; exact .inr rfl
  | nilCheck x => cases hc; exact .inr rfl
  | binOp op t x y ty =>
    simp only [compOp] at hc
    split at hc <;> first | (cases hc; exact .inr rfl) | (obtain ⟨_, _, hc⟩ := bind_iff.1 hc; cases hc; exact .inr rfl) | cases hc
  | unOp op t x => cases hc; exact .inr rfl
  | convert s d x =>
    simp only [compOp] at hc
    split at hc
    · cases hc; exact .inr rfl
    · cases hc; exact .inr rfl
    · split at hc
      · cases hc; exact .inr rfl
      · cases hc
    · split at hc
      · cases hc; exact .inr rfl
      · cases hc
    · cases hc
  | makeFunc f x y => cases hc; exact .inr rfl
  | makeSlice t x y =>
    simp only [compOp] at hc
    split at hc
    · obtain ⟨k, _, h2⟩ := bind_iff.1 hc
      obtain ⟨b, _, h3⟩ := bind_iff.1 h2
      obtain ⟨zz, _, h4⟩ := bind_iff.1 h3
      cases h4; exact .inr rfl
    · cases hc
  | slice t x lo hi mx =>
    cases mx with
    | some m => cases hc
    | none =>
      simp only [compOp] at hc
      split at hc
      · cases hc; exact .inr rfl
      · obtain ⟨k, _, h2⟩ := bind_iff.1 hc; cases h2; exact .inr rfl
      · split at hc
        · obtain ⟨k, _, h2⟩ := bind_iff.1 hc
          split at h2
          · cases h2; exact .inr rfl
          · cases h2
        · cases hc
      · cases hc
  | fieldAddr t x f =>
    simp only [compOp] at hc
    split at hc
    · obtain ⟨g, _, h2⟩ := bind_iff.1 hc
      obtain ⟨k, _, h3⟩ := bind_iff.1 h2
      cases h3; exact .inr rfl
    · cases hc
  | field t x f =>
    simp only [compOp] at hc
    split at hc
    · obtain ⟨g, _, h2⟩ := bind_iff.1 hc
      obtain ⟨k, _, h3⟩ := bind_iff.1 h2
      obtain ⟨ag, _, h4⟩ := bind_iff.1 h3
      cases h4; exact .inr rfl
    · cases hc
  | indexAddr t x i =>
    simp only [compOp] at hc
    split at hc
    · obtain ⟨k, _, h2⟩ := bind_iff.1 hc; cases h2; exact .inr rfl
    · obtain ⟨k, _, h2⟩ := bind_iff.1 hc; cases h2; exact .inr rfl
    · cases hc
  | index t x i =>
    simp only [compOp] at hc
    split at hc
    · cases hc; exact .inr rfl
    · obtain ⟨k, _, h2⟩ := bind_iff.1 hc
      obtain ⟨ag, _, h3⟩ := bind_iff.1 h2
      cases h3; exact .inr rfl
    · cases hc
  | extract x i => cases hc; exact .inr rfl
  | _ => cases hc
def isBs : LOp → Bool
  | .bslice .. => true
  | _ => false
theorem bs_shape {op : Op} {l : LOp} (hc : compOp P op = some l) : (∃ c, op = .call c) ∨ (∃ t n parts, op = .buildSlice t n parts) ∨ isBs l = false := by
  cases op with
  | call c => exact .inl ⟨c, rfl⟩
  | move x => cases hc; exact .inr (.inr rfl)
  | assign x => cases hc; exact .inr (.inr rfl)
  | pick c x y => cases hc; exact .inr (.inr rfl)
  | alloc e =>
    obtain ⟨k, _, h2⟩ := bind_iff.1 hc
    obtain ⟨zs, _, h3⟩ := bind_iff.1 h2
    obtain ⟨ag, _, h4⟩ := bind_iff.1 h3
    cases h4; exact .inr (.inr rfl)
  | box e x => obtain ⟨k, _, h2⟩ := bind_iff.1 hc; cases h2; exact .inr (.inr rfl)
  | build t parts =>
    simp only [compOp] at hc
    obtain ⟨zs, _, h2⟩ := bind_iff.1 hc
    split at h2
    · split at h2
      · obtain ⟨ps, _, h3⟩ := bind_iff.1 h2; cases h3; exact .inr (.inr rfl)
      · cases h2
    · obtain ⟨k, _, h3⟩ := bind_iff.1 h2; cases h3; exact .inr (.inr rfl)
    · cases h2
  | buildSlice t n parts => exact .inr (.inl ⟨t, n, parts, rfl⟩)
  | load t x =>
    obtain ⟨k, _, h2⟩ := bind_iff.1 hc
    obtain ⟨ag, _, h3⟩ := bind_iff.1 h2
    cases h3; exact .inr (.inr rfl)
  | store t x y =>
    obtain ⟨k, _, h2⟩ := bind_iff.1 hc
    obtain ⟨ag, _, h3⟩ := bind_iff.1 h2
    cases h3; exact .inr (.inr rfl)
  | nilCheck x => cases hc; exact .inr (.inr rfl)
  | binOp op t x y ty =>
    simp only [compOp] at hc
    split at hc <;> first | (cases hc; exact .inr (.inr rfl)) | (obtain ⟨_, _, hc⟩ := bind_iff.1 hc; cases hc; exact .inr (.inr rfl)) | cases hc
  | unOp op t x => cases hc; exact .inr (.inr rfl)
  | convert s d x =>
    simp only [compOp] at hc
    split at hc
    · cases hc; exact .inr (.inr rfl)
    · cases hc; exact .inr (.inr rfl)
    · split at hc
      · cases hc; exact .inr (.inr rfl)
      · cases hc
    · split at hc
      · cases hc; exact .inr (.inr rfl)
      · cases hc
    · cases hc
  | makeFunc f x y => cases hc; exact .inr (.inr rfl)
  | makeSlice t x y =>
    simp only [compOp] at hc
    split at hc
    · obtain ⟨k, _, h2⟩ := bind_iff.1 hc
      obtain ⟨b, _, h3⟩ := bind_iff.1 h2
      obtain ⟨zz, _, h4⟩ := bind_iff.1 h3
      cases h4; exact .inr (.inr rfl)
    · cases hc
  | slice t x lo hi mx =>
    cases mx with
    | some m => cases hc
    | none =>
      simp only [compOp] at hc
      split at hc
      · cases hc; exact .inr (.inr rfl)
      · obtain ⟨k, _, h2⟩ := bind_iff.1 hc; cases h2; exact .inr (.inr rfl)
      · split at hc
        · obtain ⟨k, _, h2⟩ := bind_iff.1 hc
          split at h2
          · cases h2; exact .inr (.inr rfl)
          · cases h2
        · cases hc
      · cases hc
  | fieldAddr t x f =>
    simp only [compOp] at hc
    split at hc
    · obtain ⟨g, _, h2⟩ := bind_iff.1 hc
      obtain ⟨k, _, h3⟩ := bind_iff.1 h2
      cases h3; exact .inr (.inr rfl)
    · cases hc
  | field t x f =>
    simp only [compOp] at hc
    split at hc
    · obtain ⟨g, _, h2⟩ := bind_iff.1 hc
      obtain ⟨k, _, h3⟩ := bind_iff.1 h2
      obtain ⟨ag, _, h4⟩ := bind_iff.1 h3
      cases h4; exact .inr (.inr rfl)
    · cases hc
  | indexAddr t x i =>
    simp only [compOp] at hc
    split at hc
    · obtain ⟨k, _, h2⟩ := bind_iff.1 hc; cases h2; exact .inr (.inr rfl)
    · obtain ⟨k, _, h2⟩ := bind_iff.1 hc; cases h2; exact .inr (.inr rfl)
    · cases hc
  | index t x i =>
    simp only [compOp] at hc
    split at hc
    · cases hc; exact .inr (.inr rfl)
    · obtain ⟨k, _, h2⟩ := bind_iff.1 hc
      obtain ⟨ag, _, h3⟩ := bind_iff.1 h2
      cases h3; exact .inr (.inr rfl)
    · cases hc
  | extract x i => cases hc; exact .inr (.inr rfl)
  | _ => cases hc
theorem no_bslice {op : Op} {e k : Nat} {ps : List LO} (hc : compOp P op = some (.bslice e k ps)) (h1 : ∀ t n parts, op ≠ .buildSlice t n parts) (h2 : ∀ c, op ≠ .call c) : False := by
  rcases bs_shape hc with ⟨c, h⟩ | ⟨t, n, parts, h⟩ | h
  · exact h2 c h
  · exact h1 t n parts h
  · cases h
theorem callee_of {z : St} {a : Act} {o : Oper} (hS : Opd M ρ w z.s a o.op.operands.toList) {l : LOp} (hc : compOp P o.op = some l) (hn : isCall l = true) :
    ∃ (c : Call) (x : Operand), o.op = .call c ∧ c.callee = .value x ∧ Args M ρ w (evs z.s (c.args.toList.map loOf)) (c.args.map a.eval) ∧
      ((∃ f, l = .call f (c.args.toList.map loOf) ∧ a.eval x = .func (.func f) #[] #[]) ∨ (l = .callv (loOf x) (c.args.toList.map loOf) ∧ VR M w ρ ((loOf x).ev z.s) (a.eval x))) := by
  cases hop : o.op with
  | call c =>
    rw [hop] at hc
    have hc' : compCall P c = some l := hc
    unfold compCall at hc'
    have hargs : Opd M ρ w z.s a c.args.toList := fun x hx => hS x (by rw [hop]; simp only [Op.operands, Call.operands, Array.toList_append, List.mem_append]; exact .inr hx)
    split at hc'
    · rename_i f hcal
      cases hc'
      exact ⟨c, _, rfl, hcal, args_of c.args hargs, .inl ⟨f, rfl, rfl⟩⟩
    · rename_i t hcal
      cases hc'
      exact ⟨c, _, rfl, hcal, args_of c.args hargs, .inr ⟨rfl, hS (.tmp t) (by rw [hop]; simp [Op.operands, Call.operands, hcal])⟩⟩
    · split at hc'
      · split at hc' <;> first | (cases hc'; cases hn) | cases hc'
      · cases hc'
    · split at hc'
      · split at hc' <;> first | (cases hc'; cases hn) | cases hc'
      · cases hc'
    · split at hc'
      · split at hc'
        · split at hc'
          · obtain ⟨k, _, h2⟩ := bind_iff.1 hc'
            obtain ⟨b, _, h3⟩ := bind_iff.1 h2
            obtain ⟨zs, _, h4⟩ := bind_iff.1 h3
            split at h4
            · cases h4; cases hn
            · cases h4
          · cases hc'
        · split at hc'
          · obtain ⟨k, hk, h2⟩ := bind_iff.1 hc'
            obtain ⟨b, hbb, h3⟩ := bind_iff.1 h2
            obtain ⟨zz, hz, h4⟩ := bind_iff.1 h3
            cases h4; cases hn
          · cases hc'
      · cases hc'
    · split at hc'
      · split at hc'
        · split at hc'
          · obtain ⟨k, _, h2⟩ := bind_iff.1 hc'
            split at h2
            · cases h2; cases hn
            · cases h2
          · cases hc'
        · cases hc'
      · cases hc'
    · cases hc'; cases hn
    · cases hc'; cases hn
    · cases hc'
  | _ =>
    exfalso
    rw [hop] at hc
    rcases comp_shape hc with ⟨c, h⟩ | h
    · cases h
    · rw [h] at hn; cases hn
end Go.Proofs.YtlmjoimjdpfamaaGreat.Ev
