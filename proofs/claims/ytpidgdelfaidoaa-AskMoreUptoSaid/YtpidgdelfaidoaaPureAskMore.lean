/- Plain law: AskMore. -/
import Derived.Test.YtpidgdelfaidoaaP26p
import Derived.Test.YtpidgdelfaidoaaPAw26
import Derived.Test.YtpidgdelfaidoaaESAskMore
namespace Go.Proofs.Ytpidgdelfaidoaa.Pure
open Go Go.Proofs.Ytpidgdelfaidoaa.E Go.Proofs.Ytpidgdelfaidoaa.Eng
set_option linter.unusedVariables false
set_option linter.unusedSimpArgs false
theorem more_pre : ∀ post bl, BlE post bl → BlE post (([32, 10, 35, 32, 119, 104, 101, 114, 101, 10, 9] : Tx) ++ bl) := fun post bl h =>
 .sp 32 _ (.inl rfl) (.sp 10 _ (.inr (.inl rfl)) (.rem [32, 119, 104, 101, 114, 101] _ (by decide) (.sp 10 _ (.inr (.inl rfl)) (.sp 9 _ (.inr (.inr rfl)) h)) fun c t e => by injection e with e _; exact e.symm))
theorem more_post : BlE [] ([32, 35, 32, 109, 111, 115, 116, 32, 53] : Tx) :=
 .sp 32 _ (.inl rfl) (.rem [32, 109, 111, 115, 116, 32, 53] [] (by decide) (.nil fun _ _ e => nomatch e) fun _ _ e => nomatch e)
theorem AskMore : chartularylaw26_AskMore.Pure := by
 intro q w hb
 refine TP.one (TP.step (fun k => rfl) (TP.bind (few26_ok q (qry_qr w)) fun v hv => ?_))
 obtain ⟨⟨q, ⟨⟩⟩, ⟨⟩⟩ := v
 have hv : QOk q := hv
 by_cases hc : checkA q = 0
 ·have hf := check_form q hv hc
  have hn := hf.n
  have hs : (saidQ q).1.length ≤ 1000 := by unfold saidQ; rw [List.length_map]; omega
  have hlen := printL_len q hv
  have hr := read_print q hv hf [32, 10, 35, 32, 119, 104, 101, 114, 101, 10, 9] [32, 35, 32, 109, 111, 115, 116, 32, 53] (by simp) more_pre more_post (fun _ _ e => by injection e with e _; subst e; rfl)
  have e : ((⟨#[32, 10, 35, 32, 119, 104, 101, 114, 101, 10, 9]⟩ : ByteArray) ++ tx (printL q)) ++ (⟨#[32, 35, 32, 109, 111, 115, 116, 32, 53]⟩ : ByteArray) = tx ([32, 10, 35, 32, 119, 104, 101, 114, 101, 10, 9] ++ (printL q ++ [32, 35, 32, 109, 111, 115, 116, 32, 53])) := by
   rw [← List.append_assoc, tx_append, tx_append]; rfl
  rw [← e] at hr
  refine TP.bindR (print_ok q hv hv.qry hc) (TP.eqT (fun h => absurd h (printL_ne q)) fun _ => TP.ck ?_ (TP.ck ?_ (TP.bindR hr ?_)))
  ·show decide (11 + (tx (printL q)).size ≤ 9223372036854775807) = true
   rw [tx_size]; apply decide_eq_true; omega
  ·apply decide_eq_true
   rw [ByteArray.size_append, tx_size]
   show 11 + (printL q).length + 9 ≤ 9223372036854775807
   omega
  ·exact TP.yes rfl (TP.bindR (said_ok q (by omega)) (TP.bindR (same_ok (saidQ q) hs) (TP.yes rfl (awake_end fun _ => rfl))))
 ·exact TP.bindR (print_no q hv.qry hc) (TP.eqT (fun _ => awake_end fun _ => rfl) fun h => absurd rfl h)
end Go.Proofs.Ytpidgdelfaidoaa.Pure
