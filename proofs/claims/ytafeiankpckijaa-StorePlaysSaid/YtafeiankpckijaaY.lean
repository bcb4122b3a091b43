/- The laws' scripts: what a row of calls is in memory; 'short'. -/
import Derived.Test.YtafeiankpckijaaW
namespace Go.Proofs.Ytafeiankpckijaa
open Go.RowKit
set_option linter.unusedSimpArgs false
set_option linter.unusedVariables false
attribute [local go_sem ↓] Go.wp_at_zero Go.wp_at_succ
/-- A call of a store, as it comes in. -/
structure D where
  op : Int
  id : Int
  ao : Option Addr
  b : List Int
  cap : Nat
  n : Int
def D.cells (d : D) : List Value := [.int .i64 d.op, .int .i64 d.id, .slice d.ao d.b.length d.cap, .int .i64 d.n]
/-- A row of calls. -/
def Dos (W : World) (lo : Option Addr) (ds : List D) : Prop := ∀ i d, ds[i]? = some d → ∃ sb so, lo = some ⟨sb, so, none⟩ ∧
  W.cell? ⟨sb, so + i * 4, none⟩ = some (.int .i64 d.op) ∧ W.cell? ⟨sb, so + i * 4 + 1, none⟩ = some (.int .i64 d.id) ∧ W.cell? ⟨sb, so + i * 4 + 2, none⟩ = some (.slice d.ao d.b.length d.cap) ∧ W.cell? ⟨sb, so + i * 4 + 3, none⟩ = some (.int .i64 d.n)
/-- Their bytes lie in old memory. -/
def Old (W : World) (B : Nat) (ds : List D) : Prop := ∀ d ∈ ds, DataAt W (· < B) d.ao d.b
theorem Dos.frame {W w : World} {lo : Option Addr} {ds : List D} (h : Dos W lo ds) {F : Nat → Prop} (ho : Only F W w) (hF : ∀ k, k < W.heap.size → ¬ F k) : Dos w lo ds := fun i d hi => by
  obtain ⟨sb, so, h1, h2, h3, h4, h5⟩ := h i d hi
  have f : ∀ {p v}, W.cell? p = some v → w.cell? p = some v := fun hc => ho.cell hc (hF _ (block_lt_of_cell hc))
  exact ⟨sb, so, h1, f h2, f h3, f h4, f h5⟩
def sumD : List D → Nat
  | [] => 0
  | d :: l => min d.b.length 65537 + sumD l
def lenD : List D → Nat
  | [] => 0
  | d :: l => d.b.length + lenD l
theorem sumD_app : ∀ l r : List D, sumD (l ++ r) = sumD l + sumD r
  | [], r => by simp [sumD]
  | d :: l, r => by simp [sumD, sumD_app l r, Nat.add_assoc]
theorem lenD_of_sumD : ∀ {l : List D}, sumD l ≤ 65536 → lenD l = sumD l
  | [], _ => rfl
  | d :: l, h => by
    simp only [sumD] at h
    have := lenD_of_sumD (l := l) (by omega)
    simp only [lenD, sumD, this]; omega
/-- What 'short' says: true for rows that are short alone. -/
def ShortSaid (w : World) (ds : List D) (e : Ending) (w' : World) : Prop := ∃ r, e = .returned (.bool r) ∧ w' = w ∧ (r = true → ds.length ≤ 300 ∧ lenD ds ≤ 65536)
set_option maxHeartbeats 1000000 in
theorem short_any (w : World) (lo : Option Addr) (ds : List D) (cap : Nat) (hd : Dos w lo ds) (hl : ds.length ≤ 3000000000000) :
    Calls Try.prog 28 #[.slice lo ds.length cap] w (ShortSaid w ds) := by
  have HD := Lib.hid hd; clear hd
  go_enter Try.func28, Try.ntmps28
  go_wp2
  go_loopg [3, 4] ds.length (fun g v3 v4 wl => wl = w ∧ ∃ (l r : List D) (m : Nat), v3 = .int .i64 m ∧ v4 = .int .i64 l.length ∧ r.length = g ∧ Hid (ds = l ++ r ∧ m = sumD l ∧ m ≤ 131073 ∧ l.length ≤ 301))
  case atStart => exact ⟨rfl, [], ds, 0, rfl, rfl, rfl, Lib.hid ⟨rfl, rfl, by omega, by simp⟩⟩
  case round =>
    obtain ⟨rfl, l, r, m, rfl, rfl, hg, hlr⟩ := hrel
    subst hg
    have hlen : ds.length = l.length + r.length := by rw [hlr.out.1]; simp
    have hm := hlr.out.2.2.1
    have hl3 := hlr.out.2.2.2
    have hfin : ∀ rr : Bool, (rr = true → r = [] ∧ ds.length ≤ 300 ∧ m ≤ 65536) → (rr = true → ds.length ≤ 300 ∧ lenD ds ≤ 65536) := fun rr h hr => by
      obtain ⟨h1, h2, h3⟩ := h hr
      have e := hlr.out.1
      rw [h1, List.append_nil] at e
      have h4 := hlr.out.2.1
      rw [← e] at h4
      exact ⟨h2, by rw [lenD_of_sumD (by omega)]; omega⟩
    have HF := Lib.hid hfin; clear hfin
    cases r with
    | nil =>
      simp only [List.length_nil, Nat.add_zero] at hlen
      have t1 : ¬ ((l.length : Int) < (ds.length : Int)) := by omega
      have HL := Lib.hid hlen; clear hlen
      by_cases t2 : ds.length ≤ 300 <;> by_cases t3 : m ≤ 65536
      all_goals
        go_wp2
        go_ret
        refine ⟨_, rfl, rfl, fun h => HF.out true (fun _ => ⟨trivial, ?_⟩) rfl⟩
        first
          | exact ⟨t2, t3⟩
          | (exfalso; revert h; simp; omega)
          | (exfalso; revert h; simp; done)
    | cons d r' =>
      simp only [List.length_cons] at hlen
      have t1 : (l.length : Int) < (ds.length : Int) := by omega
      have HL := Lib.hid hlen; clear hlen
      by_cases t2 : l.length ≤ 300
      · by_cases t3 : m ≤ 65536
        · obtain ⟨sb, so, h1, h2, h3, h4, h5⟩ := HD.out l.length d (by rw [hlr.out.1]; simp)
          subst h1
          have t2' : (l.length : Int) ≤ 300 := by omega
          have t3' : (m : Int) ≤ 65536 := by omega
          have b0 : (0 : Int) ≤ l.length := by omega
          by_cases t4 : d.b.length ≤ 65537
          · have e1 : (min (d.b.length : Int) 65537) = (d.b.length : Int) := by omega
            go_wp2
            go_roundg r'.length
            case measure => simp
            case rel => exact ⟨rfl, l ++ [d], r', m + d.b.length, by go_num, by simp, rfl, Lib.hid ⟨by rw [hlr.out.1]; simp, by rw [sumD_app, ← hlr.out.2.1]; simp only [sumD]; omega, by omega, by simp; omega⟩⟩
          · have e1 : (min (d.b.length : Int) 65537) = 65537 := by omega
            go_wp2
            go_roundg r'.length
            case measure => simp
            case rel => exact ⟨rfl, l ++ [d], r', m + 65537, by go_num, by simp, rfl, Lib.hid ⟨by rw [hlr.out.1]; simp, by rw [sumD_app, ← hlr.out.2.1]; simp only [sumD]; omega, by omega, by simp; omega⟩⟩
        · have t2' : (l.length : Int) ≤ 300 := by omega
          have t3' : ¬ (m : Int) ≤ 65536 := by omega
          by_cases t5 : ds.length ≤ 300
          all_goals
            go_wp2
            go_ret
            refine ⟨_, rfl, rfl, fun h => ?_⟩
            first | (exfalso; revert h; simp; omega) | (exfalso; revert h; simp; done)
      · have t2' : ¬ (l.length : Int) ≤ 300 := by omega
        have t2'' : ¬ (ds.length : Int) ≤ 300 := by omega
        go_wp2
        go_ret
        refine ⟨_, rfl, rfl, fun h => ?_⟩
        (exfalso; revert h; simp)
end Go.Proofs.Ytafeiankpckijaa
