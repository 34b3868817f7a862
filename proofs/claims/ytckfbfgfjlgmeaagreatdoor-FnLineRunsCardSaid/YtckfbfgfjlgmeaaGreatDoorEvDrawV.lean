/- The draws of tables with a letter, with letters, with marks, with weights. -/
import Derived.Test.YtckfbfgfjlgmeaaGreatDoorEvDrawU
set_option linter.unusedVariables false
set_option linter.unusedSimpArgs false
namespace Go.Proofs.YtckfbfgfjlgmeaaGreatDoor.Ev.Dr
theorem st1 (x : List Int) (a s : Int) : Stable [some t0, some (cu x a s)] := ⟨by simp [oldIds, t0, cu], rfl⟩
theorem st2 (x : List Int) (a s : Int) : Stable [some t0, some (cu x a s), some t0] := ⟨by simp [oldIds, t0, cu], rfl⟩
theorem st3 (x : List Int) (a s : Int) (ms : List ByteArray) (n : Nat) : Stable [some t0, some (cu x a s), some (tr ms), some (tc 2 n)] := ⟨by simp [oldIds, t0, cu, tr, tc], rfl⟩
/-- A table drawn by the first cursor: none, or one. -/
theorem pre_tab (x : List Int) (hx : okC x) (a0 s0 : Int) (h0 : 0 ≤ a0) (h1 : a0 ≤ 100000000000) : ∃ a s : Int, a0 ≤ a ∧ a ≤ a0 + 2000 ∧ (ev E0 102 [.ptr 1 0 0] [some t0, some (cu x a0 s0)] = some (.agg [.v (.slice none 0 0)], [some t0, some (cu x a s)]) ∨
    ∃ ms : List ByteArray, ms.length ≤ 30 ∧ (∀ t ∈ ms, t.size ≤ 20) ∧ ev E0 102 [.ptr 1 0 0] [some t0, some (cu x a0 s0)] = some (.agg [.sl 2 0 ms.length], [some t0, some (cu x a s), some (tr ms)])) := by
  obtain ⟨a, s, p1, p2, h⟩ := table_ok x hx [some t0, some (cu x a0 s0)] 1 a0 s0 rfl (st1 x a0 s0) h0 h1
  exact ⟨a, s, p1, p2, h⟩
theorem pick_at (x : List Int) (hx : okC x) (H : Hp) (a s : Int) (h : hget H 1 = some (cu x a s)) (hs : Stable H) (h0 : 0 ≤ a) (h1 : a ≤ 100000000000) (n : Int) :
    ∃ a' s' r : Int, a ≤ a' ∧ a' ≤ a + 2 ∧ 0 ≤ r ∧ (r < n ∨ r = 0) ∧ ev E0 81 [.ptr 1 0 0, i64 n] H = some (i64 r, H.set 1 (some (cu x a' s'))) := by
  obtain ⟨a', s', r, k⟩ := pick_ok x hx H 1 a s h hs h0 (by omega) n
  exact ⟨a', s', r, k⟩
/-- What a table is, behind a draw. -/
def TabR (T : AV) (H : Hp) : Prop := (T = .agg [.v (.slice none 0 0)] ∧ H = []) ∨ ∃ ms : List ByteArray, ms.length ≤ 30 ∧ (∀ t ∈ ms, t.size ≤ 20) ∧ T = .agg [.sl 0 0 ms.length] ∧ H = [some (tr ms)]
/-- What a table and numbers are, behind a draw. -/
def TabL (T L : AV) (H : Hp) (r : List Int) : Prop := (T = .agg [.v (.slice none 0 0)] ∧ L = .sl 0 0 r.length ∧ H = [some (ib r)]) ∨ ∃ ms : List ByteArray, ms.length ≤ 30 ∧ (∀ t ∈ ms, t.size ≤ 20) ∧ T = .agg [.sl 0 0 ms.length] ∧ L = .sl 1 0 r.length ∧ H = [some (tr ms), some (ib r)]
end Go.Proofs.YtckfbfgfjlgmeaaGreatDoor.Ev.Dr
