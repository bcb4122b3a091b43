/- The walk of Wipe. -/
import Derived.Test.YtafeiankpckijaaQ
namespace Go.Proofs.Ytafeiankpckijaa
open Go.RowKit
set_option linter.unusedSimpArgs false
set_option linter.unusedVariables false
attribute [local go_sem ↓] Go.wp_at_zero Go.wp_at_succ
set_option maxHeartbeats 1000000 in
theorem wipe_any (w : World) (a : Nat) (F : Nat → Prop) (c : C) (ord : List Nat) (E : List (Nat × Nat)) (ch : Nat → Chunk) (h : Good w a F c ord E ch) :
    Calls Try.prog 15 #[.pointer (some ⟨a, 0, none⟩)] w fun e w' => e = .returned (.tuple #[]) ∧ ∃ c' E', Good w' a F c' [] E' ch ∧ c'.n = c.n ∧ c'.room = c.room ∧ Only F w w' := by
  have K1 := Lib.hid (made_any a c.gm w h.mem.cat)
  have H := Lib.hid h; clear h
  go_enter Try.func15, Try.ntmps15
  go_wp2_with fail
  refine K1.out.mono ?_
  rintro e w1 ⟨rfl, rfl⟩
  go_wp2_with fail
  go_loopg [] ord.length (fun g wl => Hid (∃ c' ord' E', ord'.length = g ∧ Good wl a F c' ord' E' ch ∧ Only F w wl ∧ c'.n = c.n ∧ c'.room = c.room))
  case atStart => exact Lib.hid ⟨c, ord, E, rfl, H.out, Only.refl _ _, rfl, rfl⟩
  case round =>
    obtain ⟨c', ord', E', hgk, hgl, hol, hn, hr⟩ := hrel.out
    clear hrel
    have hco := hgl.mem.cold
    rw [hgl.link.old] at hco
    have HOL := Lib.hid hol; clear hol
    have HN := Lib.hid hn; clear hn
    have HR := Lib.hid hr; clear hr
    subst hgk
    cases ord' with
    | nil =>
      have HGL := Lib.hid hgl; clear hgl
      simp only [headI_nil] at hco
      go_wp2
      go_end0
      exact ⟨rfl, c', E', HGL.out, HN.out, HR.out, HOL.out⟩
    | cons i r =>
      simp only [headI_cons] at hco
      have KR := Lib.hid (remove_good wr a F c' [] r i E' ch hgl)
      clear hgl
      have b2 : ((i : Int) != -1) = true := by simp
      go_wp2_with fail
      refine KR.out.mono ?_
      rintro e wl2 ⟨rfl, c'', E'', hg2, n2, r2, ho2⟩
      have hg2 := Lib.hid hg2
      have n2 := Lib.hid n2
      have r2 := Lib.hid r2
      have ho2 := Lib.hid ho2
      go_wp2_with fail
      go_roundg r.length
      case measure => simp
      case rel => exact Lib.hid ⟨c'', r, E'', rfl, hg2.out, HOL.out.trans ho2.out, n2.out.trans HN.out, r2.out.trans HR.out⟩
end Go.Proofs.Ytafeiankpckijaa
