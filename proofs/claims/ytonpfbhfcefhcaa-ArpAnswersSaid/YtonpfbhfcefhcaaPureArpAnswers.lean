/- For every packet and addresses the law ArpAnswers of the package stevedorelaw08 answers true: what is asked, what is told of what one has, and what is answered. No condition beyond the kinds. -/
import Derived.Test.YtonpfbhfcefhcaaPArpAnswersx4
import Derived.OpenShut
namespace Go.Proofs.Ytonpfbhfcefhcaa.Pure
open Go.RowKit Go.Proofs.Ytonpfbhfcefhcaa.PArpAnswers Go.Proofs.YtonpfbhfcefhcaaW.PrintWords Go.Proofs.YtonpfbhfcefhcaaW.PrintLast
set_option linter.unusedVariables false

theorem alive_eq : stevedorelaw08_alive.f = some true := rfl
theorem ArpAnswers (op m ip tm tip own a b : Int) : stevedorelaw08_ArpAnswers.f op m ip tm tip own a b = some true := by
  unfold stevedorelaw08_ArpAnswers.f arp_Tell.f stevedoreref08_Tell.f arp_Call.f arp_Ask.f stevedoreref08_Ask.f arp_packed.f arp_packet_arp.f
  rw [alive_eq]
  by_cases h : op = 1
  · rw [if_pos h, if_pos h]
    simp
  · rw [if_neg h, if_neg h]
    simp
theorem answers_k (op m ip tm tip own a b : Int) (w : World) :
    Calls Try.prog 4 #[.agg #[.int .u16 op, .int .u64 m, .int .u32 ip, .int .u64 tm, .int .u32 tip], .int .u64 own, .int .u32 a, .int .u32 b] w fun e w' => e = .returned (.bool true) ∧ Below w.heap.size w w' :=
  stevedorelaw08_ArpAnswers.calls _ _ _ _ _ _ _ _ _ _ (ArpAnswers op m ip tm tip own a b)

end Go.Proofs.Ytonpfbhfcefhcaa.Pure
