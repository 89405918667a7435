/- The statement over numbers and lists: whatever the input, the program's Cipher and the reference's return the same list, which shares nothing with the argument. No condition but that the numbers are of 64 bits. -/
import Derived.Test.YtceffcfnjjlbkaaLibAFnExactCipher
import Derived.Test.YtceffcfnjjlbkaaLibSCipherFnExactCipher
namespace Go.Proofs.Ytceffcfnjjlbkaa.Pure
open Go.RowKit Go.Proofs.Ytceffcfnjjlbkaa.Kit Go.Proofs.Ytceffcfnjjlbkaa.PFnExactCipher Go.Proofs.YtceffcfnjjlbkaaW.PrintWords Go.Proofs.YtceffcfnjjlbkaaW.PrintLast

theorem FnExactCipher : laws_FnExactCipher.Pure := by
  intro l a1 a2 a3 h0 h1 h2 h3 h4 h5
  refine ⟨l.length + 1000, ?_⟩
  unfold laws_FnExactCipher.f
  by_cases hbig : (l.length : Int) > 1048576
  · rw [if_pos hbig]
  have hc := cipher_length l a1 a2 a3
  rw [if_neg hbig, toIntS_f (by omega) (by omega), Option.bind_some, spec_Cipher_f (by omega) (by omega), Option.bind_some, Option.bind_some, impl_Cipher_f (by omega) (by omega), Option.bind_some, eqIntS_self (by omega) (by omega), Option.bind_some, if_pos rfl, Option.bind_some, eqIntS_self (by omega) (by omega), Option.bind_some, if_pos rfl, markIntS_f (by omega) (by omega) (by omega) (by omega), Option.bind_some]
  simp only
  rw [if_neg (by omega), Option.bind_some, Bool.not_true, laws_FnExactCipher.j0, if_neg (by decide), markIntS_f (by omega) (by omega) (by omega) (by omega), Option.bind_some]
  simp only
  rw [heldIntS_f (by omega) (by omega) (by omega) (by omega), Option.bind_some, if_neg (by omega), if_pos rfl, toIntS_f (by omega) (by omega), Option.bind_some, impl_Cipher_f (by omega) (by omega), Option.bind_some, eqIntS_self (by omega) (by omega), Option.bind_some, if_pos rfl, Option.bind_some, if_neg (by omega), if_pos rfl]

end Go.Proofs.Ytceffcfnjjlbkaa.Pure
