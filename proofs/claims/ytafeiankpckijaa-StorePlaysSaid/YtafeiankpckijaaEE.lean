/- The walk of 'made'. -/
import Derived.Test.YtafeiankpckijaaBB
namespace Go.Proofs.Ytafeiankpckijaa
open Go.RowKit
set_option linter.unusedSimpArgs false
set_option linter.unusedVariables false
attribute [local go_sem ↓] Go.wp_at_zero Go.wp_at_succ
def mostOf (n : Int) : Nat := 1 + (n % 64).toNat
def roomOf (n : Int) : Nat := 1 + (n % 8192).toNat
theorem mod_wrap (n m : Int) (hm : m = 64 ∨ m = 8192) : wrap64 ((IntKind.u64.wrap n).tmod m) = n % m := by
  have h1 : IntKind.u64.wrap n = n % 18446744073709551616 := by simp [IntKind.wrap, IntKind.bits, IntKind.signed]
  rw [h1, Int.tmod_eq_emod_of_nonneg (by omega)]
  rcases hm with rfl | rfl
  · have h2 : n % 18446744073709551616 % 64 = n % 64 := by omega
    rw [h2]; unfold wrap64; omega
  · have h2 : n % 18446744073709551616 % 8192 = n % 8192 := by omega
    rw [h2]; unfold wrap64; omega
/-- What 'made' hands back: a store behind those calls; or false. -/
def MadeSaid (w : World) (n r : Int) (ds : List D) (e : Ending) (w' : World) : Prop := ∃ v ok, e = .returned (.tuple #[v, .bool ok]) ∧ Only (fun _ => False) w w' ∧
  (ok = true → ∃ a, v = Ptr a ∧ Mine w w' a (mostOf n) (roomOf r) ds.length (runL (mostOf n) (roomOf r) ds []) ∧ ds.length ≤ 300 ∧ lenD ds ≤ 65536)
theorem len_mem : ∀ {l : List D} {d : D}, d ∈ l → d.b.length ≤ lenD l
  | x :: l, d, h => by
    rcases List.mem_cons.1 h with rfl | h
    · simp only [lenD]; omega
    · have := len_mem h; simp only [lenD]; omega
set_option maxHeartbeats 2000000 in
theorem made_law (w : World) (n r : Int) (lo : Option Addr) (ds : List D) (cap : Nat) (hd : Dos w lo ds) (hold : Old w w.heap.size ds) (hl : ds.length ≤ 3000000000000) :
    Calls Try.prog 41 #[.int .i64 n, .int .i64 r, .slice lo ds.length cap] w (MadeSaid w n r ds) := by
  have hw1 := mod_wrap n 64 (Or.inl rfl)
  have hw2 := mod_wrap r 8192 (Or.inr rfl)
  have e1 : (1 + n % 64 : Int) = (mostOf n : Nat) := by unfold mostOf; omega
  have e2 : (1 + r % 8192 : Int) = (roomOf r : Nat) := by unfold roomOf; omega
  have m1 : 1 ≤ mostOf n ∧ mostOf n ≤ 64 := by unfold mostOf; omega
  have r1 : 1 ≤ roomOf r ∧ roomOf r ≤ 8192 := by unfold roomOf; omega
  have KN := Lib.hid (new_mine w (mostOf n) (roomOf r) m1.1 m1.2 r1.1 r1.2)
  have HD := Lib.hid hd; clear hd
  have HOLD := Lib.hid hold; clear hold
  have M1 := Lib.hid m1; clear m1
  have R1 := Lib.hid r1; clear r1
  go_enter Try.func41, Try.ntmps41
  go_wp2_with fail
  refine KN.out.mono ?_
  rintro e w1 ⟨rfl, hm⟩
  generalize w.heap.size + 1 = a at *
  have HM := Lib.hid hm
  have KS := Lib.hid (short_any w1 lo ds cap (HD.out.frame hm.only (fun _ _ h => h)) hl)
  clear hm KN hw1 hw2 e1 e2
  unfold Ptr
  go_wp2_with fail
  refine KS.out.mono ?_
  rintro e w2 ⟨q, rfl, rfl, hq⟩
  cases q with
  | false =>
    clear hq KS
    go_wp2
    go_ret2
    exact ⟨_, false, rfl, HM.out.only, fun h => by cases h⟩
  | true =>
    obtain ⟨hq1, hq2⟩ := hq rfl
    clear hq KS
    go_wp2_with fail
    go_loopg [36] ds.length (fun g v wl => ∃ i : Nat, v = .int .i64 i ∧ Hid (i + g = ds.length ∧ Mine w wl a (mostOf n) (roomOf r) i (runL (mostOf n) (roomOf r) (ds.take i) [])))
    case atStart => exact ⟨0, rfl, Lib.hid ⟨by omega, HM.out⟩⟩
    case round =>
      obtain ⟨i, rfl, hh⟩ := hrel
      by_cases hi : i < ds.length
      · have hi' : (i : Int) < (ds.length : Int) := by omega
        have b0 : (0 : Int) ≤ i := by omega
        obtain ⟨hg, hm⟩ := hh.out
        obtain ⟨F, hr, hF⟩ := hm.rep
        have hmem : ds[i] ∈ ds := List.getElem_mem hi
        obtain ⟨sb, so, h1, h2, h3, h4, h5⟩ := HD.out.frame hm.only (fun _ _ h => h) i ds[i] (List.getElem?_eq_getElem hi)
        have hdat : DataAt w (fun y => y < w.heap.size) ds[i].ao ds[i].b := HOLD.out _ hmem
        have hlm := len_mem hmem
        have hsn : ds.take (i + 1) = ds.take i ++ [ds[i]] := List.take_succ_eq_append_getElem hi
        generalize ds[i] = d at *
        subst h1
        have ho1 : Only (fun _ => False) wr (wr.alloc (.cells d.cells.toArray 24)) := (Only.refl _ wr).alloc _
        have KD := Lib.hid (does_any (d := d) (hr.frame ho1) (by omega) (((hdat.mono (fun y hy hf => by have := hF y hf; omega)).frame' hm.only).frame' ho1) (by omega))
        have HX := Lib.hid (And.intro hsn (And.intro hm.only (And.intro ho1 hF)))
        clear hm hr hF hmem hdat hlm hsn ho1 hg
        unfold D.cells Ptr at KD
        go_wp2_with fail
        refine KD.out.mono ?_
        rintro e wn ⟨rfl, ht⟩
        have hmn : Mine w wn a (mostOf n) (roomOf r) (i + 1) (runL (mostOf n) (roomOf r) (ds.take (i + 1)) []) := by
          rw [HX.out.1, runL_snoc]
          exact Mine.step (p := 0) (L := []) (HX.out.2.1.trans HX.out.2.2.1) HX.out.2.2.2 ht
        have HMN := Lib.hid hmn
        clear hmn ht
        go_wp2
        go_roundg (ds.length - (i + 1))
        case measure => have := hh.out.1; omega
        case rel => exact ⟨i + 1, by go_num, Lib.hid ⟨by omega, HMN.out⟩⟩
      · have hi' : ¬ (i : Int) < (ds.length : Int) := by omega
        have hi2 : i = ds.length := by have := hh.out.1; omega
        have HI := Lib.hid hi2; clear hi2
        go_wp2
        go_ret2
        refine ⟨_, true, rfl, hh.out.2.only, fun _ => ⟨a, rfl, ?_, hq1, hq2⟩⟩
        have := hh.out.2
        rw [HI.out, List.take_length] at this
        exact this
end Go.Proofs.Ytafeiankpckijaa
