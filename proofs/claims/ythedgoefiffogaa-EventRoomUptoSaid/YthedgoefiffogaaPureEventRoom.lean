/- EventRoom: every event that may be has room in a journal's record; for arguments that hold together at most 1048576 values and letters. -/
import Derived.Test.YthedgoefiffogaaSEventRoom
import Derived.Test.YthedgoefiffogaaQEventLaw
namespace Go.Proofs.Ythedgoefiffogaa.Pure
open Go.RowKit Go.Proofs.Ythedgoefiffogaa.PAll Go.Proofs.YthedgoefiffogaaW.PrintWords Go.Proofs.YthedgoefiffogaaW.PrintLast Go.Proofs.Ythedgoefiffogaa.Q
set_option linter.unusedVariables false
set_option linter.unusedSimpArgs false
theorem room_chain (k : Nat) (hk : 1010 ≤ k) (kind : Int) (id : ByteArray) (a b c : Int) (l : List S60) (gone : Bool) (h : List ByteArray) (seq idx : Int) (name : ByteArray) (size : Int) (root : ByteArray) (now : Int)
    (hl : h.length ≤ 8796093022200) (hl2 : l.length ≤ 8796093022200) : chartularylaw14_EventRoom.f k kind id a b c l gone h seq idx name size root now = some true := by
  unfold chartularylaw14_EventRoom.f
  rw [few_ok k (by omega) kind id a b c l gone h seq idx name size root now hl hl2, bind_some']
  dsimp only
  rw [bytes_ok k kind (cutB id) a b c (cutSs l) gone (cutH h) seq idx (cutB name) size (cutB root) now hk (cutB_size _) (cutSs_length _) (cutH_length _) (fun s hs => (cutSs_size l s hs).1) (cutH_size h) (cutB_size _), bind_some']
  rw [if_pos ?_, law_awake k hk]
  · rfl
  · split
    · rename_i h
      have := event_room h
      omega
    · rw [size_B]; decide
/-- EventRoom, in plain numbers and lists. -/
theorem EventRoom : chartularylaw14_EventRoom.Pure := by
  intro x hw hb
  have h1 := Open.bulks_len (fun y : ByteArray => y.size + 1) (fun y => by omega) x.f1.f6
  have h2 := Open.bulks_len bulk60 (fun y => by unfold bulk60; omega) x.f1.f4
  simp only [bulk29, bulk25] at hb
  exact ⟨1010, room_chain 1010 (by omega) _ _ _ _ _ _ _ _ _ _ _ _ _ _ (by omega) (by omega)⟩
end Go.Proofs.Ythedgoefiffogaa.Pure
