/- A row of calls, as it comes in. -/
import Derived.Test.YtafeiankpckijaaRows
import Derived.Test.YtafeiankpckijaaY
import Derived.ProofKit
import Derived.OpenShut
import Derived.ShutString
import Derived.ChangeOld
import Derived.SizedLaws
import Derived.Lib.SmallJoins
import Derived.Deep.Slices
namespace Go.Proofs.Ytafeiankpckijaa
open Go.ChangeShapes Go.WideShapes Go.ChangeAt Go.RowKit Go.Deep
open Go.ChangeMaps (open_string shut_string)
set_option linter.unusedVariables false
theorem own_knob : ownKnob Try.prog.godebug = none := by kernel_rfl
theorem laidOut : laidOutB Try.prog = true := by kernel_rfl
theorem cells24 : Try.prog.cellsOf 24 = 4 := by kernel_rfl
theorem cells22' : Try.prog.cellsOf 22 = 1 := by kernel_rfl
theorem cells3' : Try.prog.cellsOf 3 = 1 := by kernel_rfl
theorem i64_of {n : Int} (h : (Lit.int .i64 n).wf = true) : True := trivial
theorem one_do {H : Type} {enc : TypeId × Value → H} {W : World} {base fuel : Nat} {spare : Nat → Bool} {held : Bool} {cs : List Value} {x : DataW H × List MemPlace} (h : DataW.trod enc Try.prog W base spare held fuel 24 cs = some x) :
    ∃ d : D, cs = d.cells ∧ DataAt W (fun y => y < W.heap.size) d.ao d.b := by
  obtain ⟨y0, y1, y2, y3, n, -, hl, h0, h1, h2, h3⟩ := Joins.trod_struct4 Try.underlying24 h
  rw [cells24] at hl
  match cs, hl with
  | [c0, c1, c2, c3], _ =>
    obtain ⟨n0, e0, -, -⟩ := DataW.trod_int Try.underlying3 h0
    obtain ⟨n1, e1, -, -⟩ := DataW.trod_int Try.underlying3 h1
    obtain ⟨n3, e3, -, -⟩ := DataW.trod_int Try.underlying3 h3
    have e0' : [c0] = [Value.int .i64 n0] := e0
    have e1' : [c1] = [Value.int .i64 n1] := e1
    have e3' : [c3] = [Value.int .i64 n3] := e3
    simp only [List.cons.injEq, and_true] at e0' e1' e3'
    subst e0' e1' e3'
    rcases open_ints Try.underlying22 Try.underlying5 (by kernel_rfl) h2 with ⟨hcs, _⟩ | ⟨x, l, c, zs, hcs, _, hl, _, hz, _, hcell, hwz⟩
    · have e2 : [c2] = [Value.slice none 0 0] := hcs
      simp only [List.cons.injEq, and_true] at e2
      subst e2
      exact ⟨⟨n0, n1, none, [], 0, n3⟩, rfl, fun j hj => by simp at hj⟩
    · have e2 : [c2] = [Value.slice (some x) l c] := hcs
      simp only [List.cons.injEq, and_true] at e2
      subst e2
      have hl2 : l ≤ zs.length := by
        rw [hz]
        split
        · exact hl
        · exact Nat.le_refl _
      have hlen : (zs.take l).length = l := by simp; omega
      refine ⟨⟨n0, n1, some x, zs.take l, c, n3⟩, by simp only [D.cells]; rw [hlen], fun j hj => ?_⟩
      have hj' : j < l := by simpa [hlen] using hj
      have hc := hcell j (by omega)
      refine ⟨x, rfl, ?_, ?_⟩
      · rw [hc]; simp [List.getD, hj', show j < zs.length by omega]
      · have := block_lt_of_cell hc
        rwa [add_block] at this
theorem open_dos {H : Type} {enc : TypeId × Value → H} {W : World} {base : Nat} {spare : Nat → Bool} {held : Bool} {a : Option Addr} {len cap : Nat} {d : DataW H} {ps : List MemPlace} {ts : List TypeId} {ds : List (DataW H)} {j : Nat}
    (hsz : (DataW.weightsEach Try.prog ts ds).all (· ≤ reachBytes) = true) (ht : ts[j]? = some 48) (hd : ds[j]? = some d)
    (h : DataW.Trod enc Try.prog W base spare held 48 (.slice a len cap) d ps) :
    ∃ zs : List D, len = zs.length ∧ zs.length ≤ 3000000000000 ∧ Dos W a zs ∧ Old W W.heap.size zs := by
  obtain ⟨fuel, hf⟩ := h
  rcases open_slice Try.underlying48 hf with ⟨hcs, _⟩ | ⟨x, l, c, m, n, Df, Pl, hcs, _, hl, _, hm, hx, hall⟩
  · simp [Value.cells] at hcs
    obtain ⟨rfl, rfl, rfl⟩ := hcs
    exact ⟨[], rfl, by simp, fun i d hi => by simp at hi, fun d hd => by cases hd⟩
  · simp [Value.cells] at hcs
    obtain ⟨rfl, rfl, rfl⟩ := hcs
    obtain ⟨hx, _⟩ := Prod.mk.inj hx
    subst hx
    have z := sized_slice hsz ht hd Try.underlying48
    rw [show Try.prog.bytesOf 24 = 48 by kernel_rfl] at z
    have hlm : len ≤ m := by rw [hm]; split <;> omega
    have hone : ∀ i, i < len → ∃ dd : D, (∀ k, k < 4 → W.cell? ((x.add (i * 4)).add k) = dd.cells[k]?) ∧ DataAt W (fun y => y < W.heap.size) dd.ao dd.b := fun i hi => by
      obtain ⟨cs', h1, h2⟩ := hall i (by omega)
      rw [cells24] at h1
      obtain ⟨dd, rfl, h3⟩ := one_do h2
      exact ⟨dd, (World.cells?_some h1).2.2, h3⟩
    have hsp : 0 < len → x.spot = none := fun hp => by
      obtain ⟨dd, h1, _⟩ := hone 0 hp
      have := h1 0 (by omega)
      have h2 : W.cell? ((x.add (0 * 4)).add 0) = some (.int .i64 dd.op) := this
      have := World.cell?_spot h2
      simpa [Addr.add] using this
    let f : Nat → D := fun i => if hi : i < len then (hone i hi).choose else ⟨0, 0, none, [], 0, 0⟩
    have hf' : ∀ i, (hi : i < len) → (∀ k, k < 4 → W.cell? ((x.add (i * 4)).add k) = (f i).cells[k]?) ∧ DataAt W (fun y => y < W.heap.size) (f i).ao (f i).b := fun i hi => by
      have : f i = (hone i hi).choose := by simp only [f]; rw [dif_pos hi]
      rw [this]; exact (hone i hi).choose_spec
    refine ⟨(List.range len).map f, by simp, ?_, ?_, ?_⟩
    · simp at z ⊢
      have hr : reachBytes = 140737488351232 := by decide
      omega
    · intro i d hi
      obtain ⟨hil, rfl⟩ : i < len ∧ f i = d := by
        have h1 := (List.getElem?_eq_some_iff.1 hi).1
        simp at h1
        rw [List.getElem?_map, List.getElem?_range h1] at hi
        exact ⟨h1, by simpa using hi⟩
      obtain ⟨h1, _⟩ := hf' i hil
      have hs := hsp (by omega)
      obtain ⟨sb, so, spot⟩ := x
      simp only at hs
      subst hs
      have ha : ∀ k, ((⟨sb, so, none⟩ : Addr).add (i * 4)).add k = ⟨sb, so + i * 4 + k, none⟩ := fun k => by
        unfold Addr.add; split <;> split <;> simp_all
      have h1' : ∀ k, k < 4 → W.cell? ⟨sb, so + i * 4 + k, none⟩ = (f i).cells[k]? := fun k hk => by rw [← ha]; exact h1 k hk
      exact ⟨sb, so, rfl, h1' 0 (by omega), h1' 1 (by omega), h1' 2 (by omega), h1' 3 (by omega)⟩
    · intro d hd
      obtain ⟨i, hi, rfl⟩ := List.mem_map.1 hd
      exact (hf' i (by simpa using hi)).2
end Go.Proofs.Ytafeiankpckijaa
