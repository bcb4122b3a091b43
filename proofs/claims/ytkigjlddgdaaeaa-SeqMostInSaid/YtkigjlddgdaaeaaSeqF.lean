/- The walks of slices.Index, Contains, Clone, Equal at []uint32, and of the laws SeqMostIn and SeqMosts. -/
import Derived.Test.YtkigjlddgdaaeaaSeqC
import Derived.Laws.AppendOwnNone
import Derived.Deep.RegionHeld3
import Derived.Deep.DrawnRows
namespace Go.Proofs.Ytkigjlddgdaaeaa
open Go.RowKit

/-- Of a number that is there. -/
def SomePlace (w : World) (e : Ending) (w' : World) : Prop := ∃ r : Int, 0 ≤ r ∧ e = .returned (.int .i64 r) ∧ w = w'
set_option maxHeartbeats 400000 in
theorem index_any (v : Int) (ao : Option Addr) (zs : List Int) (cap : Nat) (w : World) (hm : zs.length ≤ 9223372036854775807) (hc : RowAt w ao zs) (j : Nat) (hj : j < zs.length) (hv : zs.getD j 0 = v) :
    Calls Try.prog 30 #[.slice ao zs.length cap, .int .u32 v] w (SomePlace w) := by
  have HV := Lib.hid hv; clear hv
  go_enter Try.func30, Try.ntmps30
  go_wp2
  go_loop [8] (fun i => ∃ k : Nat, k ≤ j ∧ i = .int .i64 k) (fun i => zs.length - (intOf i).toNat)
  case atStart => exact ⟨0, Nat.zero_le _, rfl⟩
  case round =>
    obtain ⟨k, hk, rfl⟩ := hrel
    have hlt : k < zs.length := by omega
    obtain ⟨a, rfl, hcell⟩ := hc k hlt
    have HC := Lib.hid hc; clear hc
    by_cases e : v = zs.getD k 0
    · have e' : (v == zs.getD k 0) = true := by simpa using e
      obtain ⟨x, hx⟩ : ∃ x, x = zs.getD k 0 := ⟨_, rfl⟩
      rw [← hx] at hcell e'
      clear hx e
      go_wp2
      go_ret
      exact ⟨k, by omega, rfl, rfl⟩
    · have e' : (v == zs.getD k 0) = false := by simpa using e
      have hkj : k < j := by
        rcases Nat.lt_or_ge k j with h | h
        · exact h
        · have : k = j := by omega
          subst this; exact absurd HV.out.symm e
      obtain ⟨x, hx⟩ : ∃ x, x = zs.getD k 0 := ⟨_, rfl⟩
      rw [← hx] at hcell e'
      clear hx e
      go_wp2
      go_round
      case rel => exact ⟨k + 1, by omega, by go_num⟩
      case measure => simp [intOf]; omega

set_option maxHeartbeats 400000 in
theorem contains_any (v : Int) (ao : Option Addr) (zs : List Int) (cap : Nat) (w : World) (hm : zs.length ≤ 9223372036854775807) (hc : RowAt w ao zs) (hv : v ∈ zs) :
    Calls Try.prog 25 #[.slice ao zs.length cap, .int .u32 v] w fun e w' => e = .returned (.bool true) ∧ w = w' := by
  obtain ⟨j, hj, hjv⟩ := List.mem_iff_getElem.1 hv
  have c := index_any v ao zs cap w hm hc j hj (by simp [List.getD, hj, hjv])
  have C := Lib.hid c; clear c hc hv hjv
  go_enter Try.func25, Try.ntmps25
  go_wp2_with fail
  refine C.out.mono ?_
  rintro e w' ⟨r, hr, rfl, rfl⟩
  go_wp2
  go_ret
  exact ⟨rfl, rfl⟩

set_option maxHeartbeats 400000 in
theorem equal_any (ao bo : Option Addr) (zs : List Int) (ca cb : Nat) (w : World) (hm : zs.length ≤ 9223372036854775807) (ha : RowAt w ao zs) (hb : RowAt w bo zs) :
    Calls Try.prog 28 #[.slice ao zs.length ca, .slice bo zs.length cb] w fun e w' => e = .returned (.bool true) ∧ Below w.heap.size w w' := by
  go_enter Try.func28, Try.ntmps28
  go_wp2
  go_loopw [13] (fun i wr => ∃ k : Nat, k ≤ zs.length ∧ i = .int .i64 k ∧ ∃ n, wr = w.drewN n) (fun i _ => zs.length - (intOf i).toNat)
  case atStart => exact ⟨0, Nat.zero_le _, rfl, 0, rfl⟩
  case round =>
    obtain ⟨k, hk, rfl, n, rfl⟩ := hrel
    by_cases hlt : k < zs.length
    · obtain ⟨a, rfl, hcell⟩ := ha k hlt
      obtain ⟨b, rfl, hcell'⟩ := hb k hlt
      have HA := Lib.hid ha; clear ha
      have HB := Lib.hid hb; clear hb
      obtain ⟨x, hx⟩ : ∃ x, x = zs.getD k 0 := ⟨_, rfl⟩
      rw [← hx] at hcell hcell'
      clear hx
      have h0 : (0 : Int) ≤ (k : Int) := by omega
      have h1 : (k : Int) < (zs.length : Int) := by omega
      go_wp2
      go_quiet (fail)
      go_wp2
      go_roundw
      case rel => exact ⟨k + 1, by omega, by go_num, _, rfl⟩
      case measure => simp [intOf]; omega
    · have HA := Lib.hid ha; clear ha
      have HB := Lib.hid hb; clear hb
      go_wp2
      go_ret
      exact ⟨rfl, below_drewN (Below.refl _ _) _⟩

theorem Try.info22 : (Try.prog.info? 22).map (fun i => (i.zero, i.size, i.bytes)) = some (some (.int .u32 0), 1, 4) := by kernel_rfl
/-- A clone's numbers. -/
def Cloned (n : Nat) (zs : List Int) (w : World) (e : Ending) (w' : World) : Prop := ∃ bo cb, e = .returned (.slice bo n cb) ∧ RowAt w' bo zs ∧ Below w.heap.size w w'
theorem Try.under37 : Try.prog.underlying 37 = some (.slice 22) := by kernel_rfl
set_option maxHeartbeats 400000 in
theorem clone_nil (w : World) : Calls Try.prog 26 #[.slice none 0 0] w (Cloned 0 [] w) := by
  have hq := fun (w : World) => Lib.run_eql_slice_nil (P := Try.prog) w 37 22 none 0 0 0 0 Try.under37
  go_enter Try.func26, Try.ntmps26
  go_wp2
  go_ret
  exact ⟨_, _, rfl, fun j hj => absurd hj (by simp), Below.refl _ _⟩
set_option maxHeartbeats 400000 in
theorem clone_row (a : Addr) (zs : List Int) (cap : Nat) (w : World) (hm : zs.length * 4 ≤ 140737488351232) (hc : RowAt w (some a) zs) (hlt : zs ≠ [] → a.block < w.heap.size) :
    Calls Try.prog 26 #[.slice (some a) zs.length cap] w (Cloned zs.length zs w) := by
  have hq := fun (w : World) => Lib.run_eql_slice_nil (P := Try.prog) w 37 22 (some a) zs.length cap 0 0 Try.under37
  obtain ⟨i0, hi, hz0, hz1, hz2⟩ := info_parts Try.info22
  have hnews : ∀ j u, (zs.map (Value.int .u32))[j]? = some u → w.cell? (a.add j) = some u := by
    intro j u hu
    obtain ⟨hj, he⟩ := List.getElem?_eq_some_iff.1 hu
    simp at hj
    obtain ⟨_, ha, h⟩ := hc j hj
    obtain rfl := Option.some.inj ha
    rw [h, ← he]; simp [List.getD, hj]
  have HN := Lib.hid hnews; clear hnews hc
  go_enter Try.func26, Try.ntmps26
  go_wp2_with (at_builtin; refine wpList_append_own _ rfl (.tmp 5) (.tmp 6) 37 rfl w.heap.size 22 i0 (.int .u32 0) 1 4 Try.under37 hi hz0 hz1 hz2 rfl (by decide) _ 0 [] rfl ?c0 a zs.length cap (zs.map (Value.int .u32)) rfl (by simp) ?c1 ?c2 ?c3 ?c4 ?c5 ?_)
  case c0 => exact ⟨rfl, Or.inr ⟨w.heap.size, 0, #[], rfl, Nat.le_refl _, heap_alloc_new _ _, Nat.le_refl _, Nat.zero_le _, rfl, rfl⟩⟩
  case c1 =>
    intro j u hu
    have hne : zs ≠ [] := fun h => by rw [h] at hu; simp at hu
    have hlt := hlt hne
    rw [World.cell?_alloc_lt _ _ _ (by unfold Addr.add; split <;> simpa using hlt)]; exact HN.out j u hu
  case c2 => intro u hu; simp at hu; obtain ⟨x, _, rfl⟩ := hu; rfl
  case c3 => unfold maxLen; omega
  case c4 => omega
  case c5 => simp
  intro v' w1 hown hgrow hne
  have hex : ∃ g cap' cur, v' = .slice (some ⟨g, 0, none⟩) zs.length cap' ∧ w1.heap[g]? = some (.cells cur 22 (0, 0)) ∧ cur.toList.take (zs.length * 1) = zs.map (Value.int .u32) := by
    obtain ⟨_, h | ⟨g, cap', cur, h1, _, h2, _, _, _, h3⟩⟩ := hown
    · exact absurd h.1 hne
    · exact ⟨g, cap', cur, h1, h2, h3⟩
  obtain ⟨g, cap', cur, hv, hg, hcur⟩ := hex
  have hbel : Below w.heap.size w w1 := ((Below.refl _ _).alloc (Nat.le_refl _) _).grown hgrow (by simp) (fun k hk => by simp [Value.ownBlock] at hk; omega)
  have hrow : RowAt w1 (some ⟨g, 0, none⟩) zs := by
    intro j hj
    refine ⟨_, rfl, ?_⟩
    have e : (cur.toList.take (zs.length * 1))[j]? = some (.int .u32 (zs.getD j 0)) := by rw [hcur]; simp [List.getD, hj]
    rw [List.getElem?_take_of_lt (by omega)] at e
    have ha : (⟨g, 0, none⟩ : Addr).add j = ⟨g, j, none⟩ := by unfold Addr.add; split <;> simp_all
    rw [ha, cell_of_row _ _ _ _ _ _ hg]
    simpa using e
  have HV := Lib.hid hv; clear hv hown hgrow hne hg hcur
  go_wp2
  go_ret
  exact ⟨_, _, congrArg Ending.returned HV.out, hrow, hbel⟩

theorem mostI_best (first : Int) (l : List Int) : ∀ best, (mostI first best l = best ∨ mostI first best l ∈ l) ∧ df best first ≤ df (mostI first best l) first ∧ ∀ x ∈ l, df x first ≤ df (mostI first best l) first := by
  induction l with
  | nil => intro best; exact ⟨Or.inl rfl, Int.le_refl _, fun x hx => by cases hx⟩
  | cons y l ih =>
    intro best
    simp only [mostI]
    split
    · rename_i h
      obtain ⟨h1, h2, h3⟩ := ih y
      refine ⟨Or.inr ?_, by omega, fun x hx => ?_⟩
      · rcases h1 with h1 | h1
        · rw [h1]; exact List.mem_cons_self
        · exact List.mem_cons_of_mem _ h1
      · rcases List.mem_cons.1 hx with rfl | hx
        · exact h2
        · exact h3 x hx
    · rename_i h
      obtain ⟨h1, h2, h3⟩ := ih best
      refine ⟨?_, h2, fun x hx => ?_⟩
      · rcases h1 with h1 | h1
        · exact Or.inl h1
        · exact Or.inr (List.mem_cons_of_mem _ h1)
      · rcases List.mem_cons.1 hx with rfl | hx
        · omega
        · exact h3 x hx

set_option maxHeartbeats 1000000 in
theorem mosts_law (first : Int) (ao : Option Addr) (zs : List Int) (cap : Nat) (w : World) (hf : 0 ≤ first ∧ first < 4294967296) (hz : ∀ x ∈ zs, 0 ≤ x ∧ x < 4294967296) (hm : zs.length * 4 ≤ 140737488351232)
    (hc : RowAt w ao zs) (hao : ao = none → zs = [] ∧ cap = 0) (hlt : ∀ a, ao = some a → zs ≠ [] → a.block < w.heap.size) :
    Calls Try.prog 12 #[.int .u32 first, .slice ao zs.length cap] w (Yes w) := by
  by_cases hl : 10000 < zs.length
  · clear hz hc hao hlt
    go_enter Try.func12, Try.ntmps12
    go_wp2_with fail
    refine (awake_any _).mono ?_; rintro e w2 ⟨rfl, hbel⟩
    go_wp2_with fail
    go_ret
    exact ⟨rfl, hbel⟩
  have kc : Calls Try.prog 26 #[.slice ao zs.length cap] w (Cloned zs.length zs w) := by
    cases ao with
    | none => obtain ⟨rfl, rfl⟩ := hao rfl; exact clone_nil w
    | some a => exact clone_row a zs cap w hm hc (hlt a rfl)
  have hc' : ∀ w', Below w.heap.size w w' → RowAt w' ao zs := fun w' hb j hj => by
    obtain ⟨a, ha, h⟩ := hc j hj
    refine ⟨a, ha, ?_⟩
    have hne : zs ≠ [] := fun h => by rw [h] at hj; simp at hj
    rw [hb.cell (by have := hlt a ha hne; unfold Addr.add; split <;> simpa using this)]; exact h
  have KC := Lib.hid kc; clear kc
  have HC := Lib.hid hc'; clear hc' hc hao hlt
  have HZ := Lib.hid hz; clear hz
  go_enter Try.func12, Try.ntmps12
  go_wp2_with fail
  refine KC.out.mono ?_; rintro e w2 ⟨bo, cb, rfl, hrow, hbel⟩
  have HR := Lib.hid hrow; clear hrow
  have HB := Lib.hid hbel; clear hbel
  go_wp2_with fail
  refine (most_any first bo zs cb _ (by omega) HR.out).mono ?_; rintro e w3 ⟨rfl, rfl⟩
  go_wp2_with fail
  refine (rmost_any first ao zs cap _ hf HZ.out (by omega) (HC.out _ HB.out)).mono ?_; rintro e w3 ⟨rfl, rfl⟩
  go_wp2_with fail
  refine (equal_any bo ao zs cb cap _ (by omega) HR.out (HC.out _ HB.out)).mono ?_; rintro e w3 ⟨rfl, hb3⟩
  have HB3 := Lib.hid (HB.out.trans (hb3.mono HB.out.size)); clear hb3
  go_wp2_with fail
  refine (awake_any _).mono ?_; rintro e w4 ⟨rfl, hbel⟩
  go_wp2_with fail
  go_ret
  exact ⟨rfl, HB3.out.trans (hbel.mono HB3.out.size)⟩

set_option maxHeartbeats 1000000 in
theorem mostIn_law (first : Int) (ao : Option Addr) (zs : List Int) (cap : Nat) (w : World) (hm : zs.length * 4 ≤ 140737488351232) (hc : RowAt w ao zs) :
    Calls Try.prog 11 #[.int .u32 first, .slice ao zs.length cap] w (Yes w) := by
  by_cases hl : 10000 < zs.length
  · clear hc
    go_enter Try.func11, Try.ntmps11
    go_wp2_with fail
    refine (awake_any _).mono ?_; rintro e w2 ⟨rfl, hbel⟩
    go_wp2_with fail
    go_ret
    exact ⟨rfl, hbel⟩
  have kb := mostI_best first zs first
  have km := fun w' h => most_any first ao zs cap w' (by omega) h
  obtain ⟨m, hmm⟩ : ∃ m, m = mostI first first zs := ⟨_, rfl⟩
  simp only [← hmm] at kb km
  clear hmm
  obtain ⟨hin, h0, hall⟩ := kb
  rw [df_self] at h0
  have KM := Lib.hid km; clear km
  have HALL := Lib.hid hall; clear hall
  have HIN := Lib.hid hin; clear hin
  have HC := Lib.hid hc; clear hc
  go_enter Try.func11, Try.ntmps11
  go_wp2_with fail
  refine (KM.out _ HC.out).mono ?_; rintro e w3 ⟨rfl, rfl⟩
  go_wp2_with fail
  go_loop [17] (fun i => ∃ k : Nat, k ≤ zs.length ∧ i = .int .i64 k) (fun i => zs.length - (intOf i).toNat)
  case atStart => exact ⟨0, Nat.zero_le _, rfl⟩
  case round =>
    obtain ⟨k, hk, rfl⟩ := hrel
    by_cases hlt : k < zs.length
    · obtain ⟨a, rfl, hcell⟩ := HC.out k hlt
      have hx0 : df (zs.getD k 0) first ≤ df m first := HALL.out _ (by simp [List.getD, hlt])
      obtain ⟨x, hx⟩ : ∃ x, x = zs.getD k 0 := ⟨_, rfl⟩
      rw [← hx] at hcell hx0
      clear hx
      go_wp2_with (go_at_call 22; (with_reducible refine (diff_any _ _ _).mono ?_); rintro e w' ⟨rfl, rfl⟩)
      go_round
      case rel => exact ⟨k + 1, by omega, by go_num⟩
      case measure => simp [intOf]; omega
    · by_cases e : m = first
      · subst e
        clear h0
        have h0 : (0 : Int) ≤ df m m := by rw [df_self]; exact Int.le_refl _
        go_wp2_with fail
        refine (diff_any _ _ _).mono ?_; rintro e w' ⟨rfl, rfl⟩
        go_wp2_with fail
        refine (awake_any _).mono ?_; rintro e w2 ⟨rfl, hbel⟩
        go_wp2_with fail
        go_ret
        exact ⟨rfl, hbel⟩
      · have hmem : m ∈ zs := by rcases HIN.out with h | h; exact absurd h e; exact h
        have e' : (m == first) = false := by simpa using e
        clear e
        go_wp2_with fail
        refine (contains_any m ao zs cap _ (by omega) HC.out hmem).mono ?_; rintro e w' ⟨rfl, rfl⟩
        go_wp2_with fail
        refine (diff_any _ _ _).mono ?_; rintro e w' ⟨rfl, rfl⟩
        go_wp2_with fail
        refine (awake_any _).mono ?_; rintro e w2 ⟨rfl, hbel⟩
        go_wp2_with fail
        go_ret
        exact ⟨rfl, hbel⟩
end Go.Proofs.Ytkigjlddgdaaeaa
