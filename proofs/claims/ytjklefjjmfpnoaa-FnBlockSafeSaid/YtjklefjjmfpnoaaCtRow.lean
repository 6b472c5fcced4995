/-
  Arguments of laws, read as data.
-/
import Derived.Test.YtjklefjjmfpnoaaCtD
import Derived.Test.YtjklefjjmfpnoaaFyA
import Derived.Test.YtjklefjjmfpnoaaCf
namespace Go.Fw
set_option linter.unusedSimpArgs false
set_option linter.unusedVariables false
open Go.Proofs.Try (prog)

theorem gr_row {m : List MV} (h : msOK [.sc (.i .i64), .sl [.i .i64, .i .i64]] m) : ∃ n es, m = [.i .i64 n, .s false 2 (encE es)] ∧ es.length ≤ maxLen := by
  match m, h with
  | [.i k n, .s t k' r], h =>
    simp only [msOK] at h
    obtain ⟨rfl, _, rfl, rfl, h1, h2, _⟩ := h
    obtain ⟨l, rfl, hw⟩ := rows_two h1
    exact ⟨n, l, rfl, by simpa using h2⟩
theorem ed_row {m : List MV} (h : msOK [.sc (.i .i64), .sc (.i .i64)] m) : ∃ e : E, m = [.i .i64 e.1, .i .i64 e.2] := by
  match m, h with
  | [.i k n, .i k' n'], h =>
    simp only [msOK] at h
    obtain ⟨rfl, _, rfl, _, _⟩ := h
    exact ⟨(n, n'), rfl⟩
theorem lv_row {m : List MV} (h : msOK [.sc (.i .i64), .sl [.i .i64, .i .i64], .sl [.i .i64], .sl [.b]] m) : ∃ n es ls fs, m = [.i .i64 n, .s false 2 (encE es), .s false 1 (encI ls), .s false 1 (encT fs)] ∧ es.length ≤ maxLen ∧ ls.length ≤ maxLen ∧ fs.length ≤ maxLen := by
  match m, h with
  | [.i k n, .s t1 k1 r1, .s t2 k2 r2, .s t3 k3 r3], h =>
    simp only [msOK] at h
    obtain ⟨rfl, _, rfl, rfl, h1, b1, rfl, rfl, h2, b2, rfl, rfl, h3, b3, _⟩ := h
    obtain ⟨l, rfl, _⟩ := rows_two h1
    obtain ⟨m, rfl, _⟩ := rows_int h2
    obtain ⟨p, rfl⟩ := rows_bool h3
    exact ⟨n, l, m, p, rfl, by simpa using b1, by simpa using b2, by simpa using b3⟩
theorem row_i {k : IntKind} {ss : List Sc} {r : List D} (h : rowOK (.i k :: ss) r) : ∃ n ds, r = .i k n :: ds ∧ rowOK ss ds := by
  match r, h with
  | .i k' n :: ds, h =>
    simp only [rowOK] at h
    obtain ⟨rfl, _, h⟩ := h
    exact ⟨n, ds, rfl, h⟩
theorem row_b {ss : List Sc} {r : List D} (h : rowOK (.b :: ss) r) : ∃ x ds, r = .b x :: ds ∧ rowOK ss ds := by
  match r, h with
  | .b x :: ds, h => exact ⟨x, ds, rfl, by simpa only [rowOK] using h⟩
theorem row_n {r : List D} (h : rowOK [] r) : r = [] := by
  match r, h with
  | [], _ => rfl
theorem rows_ev : ∀ {rows : List (List D)}, (∀ r ∈ rows, rowOK [.i .i64, .i .i64, .i .i64, .b] r) → ∃ l : List V3, rows = encV l
  | [], _ => ⟨[], rfl⟩
  | r :: rows, h => by
    obtain ⟨l, rfl⟩ := rows_ev (fun r hr => h r (List.mem_cons_of_mem _ hr))
    obtain ⟨a, d1, rfl, h1⟩ := row_i (h r (by simp))
    obtain ⟨b, d2, rfl, h2⟩ := row_i h1
    obtain ⟨c, d3, rfl, h3⟩ := row_i h2
    obtain ⟨d, d4, rfl, h4⟩ := row_b h3
    obtain rfl := row_n h4
    exact ⟨(a, (b, c), d) :: l, rfl⟩
theorem rows_bytes {rows : List (List D)} (h : ∀ r ∈ rows, rowOK [.i .u8] r) : ∃ b, rows = encB b ∧ Byt b := by
  obtain ⟨l, h1, h2⟩ := rows_int h
  exact ⟨l, h1, fun n hn => wf_u8 (h2 n hn)⟩
end Go.Fw
