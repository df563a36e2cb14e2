/- The contracts that the law TcbLinger's runs lean on hold of the given program. No conditions. -/
import Derived.Test.YtpncmonojhlheaaGreatEvLgChR
import Derived.Test.YtpncmonojhlheaaGreatEvLgChT
import Derived.Test.YtpncmonojhlheaaGreatEvLgSc
namespace Go.Proofs.YtpncmonojhlheaaGreat
open Go.Ev

theorem checkR : conCheck.Holds Tryz.prog 4 := check_holds (env_types ev_zeros ev_codes noCon) no_cons ev_mixed ⟨Tryz.f4, Tryz.func4, by kernel_rfl, by kernel_rfl⟩ (n := 1000) (fun m s r l mo f t ms u => by
    have h := LgCheckR.all m s r l mo f t ms u trivial
    unfold LgCheckR.Goal LgCheckR.args at h
    exact h)
theorem checkT : conCheck.Holds Tryz.prog 77 := check_holds (env_types ev_zeros ev_codes noCon) no_cons ev_mixed ⟨Tryz.f77, Tryz.func77, by kernel_rfl, by kernel_rfl⟩ (n := 1000) (fun m s r l mo f t ms u => by
    have h := LgCheckT.all m s r l mo f t ms u trivial
    unfold LgCheckT.Goal LgCheckT.args at h
    exact h)
theorem scale74 : conScale.Holds Tryz.prog 74 := scale_holds (env_types ev_zeros ev_codes noCon) no_cons ev_mixed ⟨Tryz.f74, Tryz.func74, by kernel_rfl, by kernel_rfl⟩ (n := 1000) (fun x y r hr => by
    have h := LgScale.all x y r hr
    unfold LgScale.Goal LgScale.args at h
    exact h)
set_option maxRecDepth 100000 in
theorem ev_live5 : fin (irun Tryz.prog 185 noCon 1000 5 [] ⟨.nil, 0⟩) = want (irun Tryz.prog 185 noCon 1000 5 [] ⟨.nil, 0⟩) := by kernel_rfl
theorem yes5 : conYes.Holds Tryz.prog 5 := yes_holds ev_zeros ev_codes ev_mixed no_cons ev_live5

noncomputable def conL : Nat → Option Con := conAdd (conAdd (conAdd (conAdd noCon 4 conCheck) 77 conCheck) 74 conScale) 5 conYes
theorem consL : (envOf Tryz.prog 185 conL).Cons Tryz.prog := cons_add (cons_add (cons_add (cons_add no_cons checkR) checkT) scale74) yes5

end Go.Proofs.YtpncmonojhlheaaGreat
