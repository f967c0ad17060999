/- How a list of strings that came in is opened. No condition. -/
import Derived.Test.YtpnomnicfkjcgaaOpenSt
import Derived.Test.YtpnomnicfkjcgaaStrs
import Derived.Test.YtpnomnicfkjcgaaChecked
import Derived.ChangeArms
namespace Go.Proofs.Ytpnomnicfkjcgaa
open Go.RowKit Go.ChangeShapes Go.WideShapes Go.Deep

theorem rows_strs (l : List ByteArray) : rows (fun s => [Value.string s]) l = strs l := by
  induction l with
  | nil => rfl
  | cons a l ih =>
    have e : rows (fun s => [Value.string s]) (a :: l) = Value.string a :: rows (fun s => [Value.string s]) l := rfl
    rw [e, ih]
    rfl
theorem str_open {H : Type} {enc : TypeId × Value → H} {w : World} (n : Nat) (cs : List Value) (y : DataW H × List MemPlace)
    (h : DataW.trod enc Try.prog w 0 (fun _ => true) true n 9 cs = some y) : ∃ s : ByteArray, s.size ≤ maxLen ∧ cs = [Value.string s] := by
  obtain ⟨s, e, _, hs⟩ := DataW.trod_string Try.underlying9 h
  exact ⟨s, hs, e⟩
theorem strs_open {H : Type} {enc : TypeId × Value → H} {w : World} {fuel : Nat} {a0 : Option Addr} {len cap : Nat} {x : DataW H × List MemPlace}
    (h : DataW.trod enc Try.prog w 0 (fun _ => true) true fuel 22 [.slice a0 len cap] = some x) :
    ∃ l : List ByteArray, l.length = len ∧ (∀ s ∈ l, s.size ≤ maxLen) ∧ Row w w.heap.size a0 (strs l) ∧ len ≤ maxLen := by
  obtain ⟨l, h1, h2, h3, h4⟩ := open_rows (fun s => [Value.string s]) 1 (fun _ => rfl) (fun s : ByteArray => s.size ≤ maxLen) (by omega) Try.underlying22 (by kernel_rfl) str_open h
  rw [rows_strs] at h3
  exact ⟨l, h1, h2, h3, h4⟩
end Go.Proofs.Ytpnomnicfkjcgaa
