/- The code fits the program. The functions that are proved by hand do what is said of them. All the code fits the program. The law, wherever it is called. -/
import Derived.Test.YtkiklfcfdopplaaME
import Derived.Test.YtkiklfcfdopplaaMG
import Derived.Test.YtkiklfcfdopplaaChecked
import Derived.KernelRfl
import Derived.Test.YtkiklfcfdopplaaMK
import Derived.Laws.Cover3
import Derived.Laws.Externs
import Derived.Lib.Bytealg
import Derived.Test.YtkiklfcfdopplaaML
namespace Go.Proofs.Ytkiklfcfdopplaa.T
open Go
theorem ok_laws_FnExactTightenZeros : Go.Proofs.Try.prog.funcs[3]? = some Go.Proofs.Try.f3 ∧ fnOk ids Go.Proofs.Try.prog Go.Proofs.Try.f3 c_laws_FnExactTightenZeros = true := ⟨by kernel_rfl, by kernel_rfl⟩
theorem ok_laws_szEntryS : Go.Proofs.Try.prog.funcs[4]? = some Go.Proofs.Try.f4 ∧ fnOk ids Go.Proofs.Try.prog Go.Proofs.Try.f4 c_laws_szEntryS = true := ⟨by kernel_rfl, by kernel_rfl⟩
theorem ok_spec_TightenZeros : Go.Proofs.Try.prog.funcs[5]? = some Go.Proofs.Try.f5 ∧ fnOk ids Go.Proofs.Try.prog Go.Proofs.Try.f5 c_spec_TightenZeros = true := ⟨by kernel_rfl, by kernel_rfl⟩
theorem ok_laws_toEntryS : Go.Proofs.Try.prog.funcs[6]? = some Go.Proofs.Try.f6 ∧ fnOk ids Go.Proofs.Try.prog Go.Proofs.Try.f6 c_laws_toEntryS = true := ⟨by kernel_rfl, by kernel_rfl⟩
theorem ok_impl_TightenZeros : Go.Proofs.Try.prog.funcs[7]? = some Go.Proofs.Try.f7 ∧ fnOk ids Go.Proofs.Try.prog Go.Proofs.Try.f7 c_impl_TightenZeros = true := ⟨by kernel_rfl, by kernel_rfl⟩
theorem ok_laws_eqEntryS : Go.Proofs.Try.prog.funcs[8]? = some Go.Proofs.Try.f8 ∧ fnOk ids Go.Proofs.Try.prog Go.Proofs.Try.f8 c_laws_eqEntryS = true := ⟨by kernel_rfl, by kernel_rfl⟩
theorem ok_laws_intactEntryS : Go.Proofs.Try.prog.funcs[9]? = some Go.Proofs.Try.f9 ∧ fnOk ids Go.Proofs.Try.prog Go.Proofs.Try.f9 c_laws_intactEntryS = true := ⟨by kernel_rfl, by kernel_rfl⟩
theorem ok_laws_markEntryS : Go.Proofs.Try.prog.funcs[10]? = some Go.Proofs.Try.f10 ∧ fnOk ids Go.Proofs.Try.prog Go.Proofs.Try.f10 c_laws_markEntryS = true := ⟨by kernel_rfl, by kernel_rfl⟩
theorem ok_laws_heldEntryS : Go.Proofs.Try.prog.funcs[11]? = some Go.Proofs.Try.f11 ∧ fnOk ids Go.Proofs.Try.prog Go.Proofs.Try.f11 c_laws_heldEntryS = true := ⟨by kernel_rfl, by kernel_rfl⟩
theorem ok_laws_szEntry : Go.Proofs.Try.prog.funcs[12]? = some Go.Proofs.Try.f12 ∧ fnOk ids Go.Proofs.Try.prog Go.Proofs.Try.f12 c_laws_szEntry = true := ⟨by kernel_rfl, by kernel_rfl⟩
theorem ok_spec_caPlace : Go.Proofs.Try.prog.funcs[13]? = some Go.Proofs.Try.f13 ∧ fnOk ids Go.Proofs.Try.prog Go.Proofs.Try.f13 c_spec_caPlace = true := ⟨by kernel_rfl, by kernel_rfl⟩
theorem ok_spec_caGood : Go.Proofs.Try.prog.funcs[14]? = some Go.Proofs.Try.f14 ∧ fnOk ids Go.Proofs.Try.prog Go.Proofs.Try.f14 c_spec_caGood = true := ⟨by kernel_rfl, by kernel_rfl⟩
theorem ok_spec_caAt : Go.Proofs.Try.prog.funcs[15]? = some Go.Proofs.Try.f15 ∧ fnOk ids Go.Proofs.Try.prog Go.Proofs.Try.f15 c_spec_caAt = true := ⟨by kernel_rfl, by kernel_rfl⟩
theorem ok_spec_l1In : Go.Proofs.Try.prog.funcs[16]? = some Go.Proofs.Try.f16 ∧ fnOk ids Go.Proofs.Try.prog Go.Proofs.Try.f16 c_spec_l1In = true := ⟨by kernel_rfl, by kernel_rfl⟩
theorem ok_spec_l1Most : Go.Proofs.Try.prog.funcs[17]? = some Go.Proofs.Try.f17 ∧ fnOk ids Go.Proofs.Try.prog Go.Proofs.Try.f17 c_spec_l1Most = true := ⟨by kernel_rfl, by kernel_rfl⟩
theorem ok_spec_l1Least : Go.Proofs.Try.prog.funcs[18]? = some Go.Proofs.Try.f18 ∧ fnOk ids Go.Proofs.Try.prog Go.Proofs.Try.f18 c_spec_l1Least = true := ⟨by kernel_rfl, by kernel_rfl⟩
theorem ok_spec_caEntry : Go.Proofs.Try.prog.funcs[19]? = some Go.Proofs.Try.f19 ∧ fnOk ids Go.Proofs.Try.prog Go.Proofs.Try.f19 c_spec_caEntry = true := ⟨by kernel_rfl, by kernel_rfl⟩
theorem ok_spec_caPut : Go.Proofs.Try.prog.funcs[20]? = some Go.Proofs.Try.f20 ∧ fnOk ids Go.Proofs.Try.prog Go.Proofs.Try.f20 c_spec_caPut = true := ⟨by kernel_rfl, by kernel_rfl⟩
theorem ok_laws_roomBehind : Go.Proofs.Try.prog.funcs[21]? = some Go.Proofs.Try.f21 ∧ fnOk ids Go.Proofs.Try.prog Go.Proofs.Try.f21 c_laws_roomBehind = true := ⟨by kernel_rfl, by kernel_rfl⟩
theorem ok_laws_toEntry : Go.Proofs.Try.prog.funcs[22]? = some Go.Proofs.Try.f22 ∧ fnOk ids Go.Proofs.Try.prog Go.Proofs.Try.f22 c_laws_toEntry = true := ⟨by kernel_rfl, by kernel_rfl⟩
theorem ok_laws_fillerEntry : Go.Proofs.Try.prog.funcs[23]? = some Go.Proofs.Try.f23 ∧ fnOk ids Go.Proofs.Try.prog Go.Proofs.Try.f23 c_laws_fillerEntry = true := ⟨by kernel_rfl, by kernel_rfl⟩
theorem ok_impl_isCatalogue : Go.Proofs.Try.prog.funcs[24]? = some Go.Proofs.Try.f24 ∧ fnOk ids Go.Proofs.Try.prog Go.Proofs.Try.f24 c_impl_isCatalogue = true := ⟨by kernel_rfl, by kernel_rfl⟩
theorem ok_impl_inside : Go.Proofs.Try.prog.funcs[25]? = some Go.Proofs.Try.f25 ∧ fnOk ids Go.Proofs.Try.prog Go.Proofs.Try.f25 c_impl_inside = true := ⟨by kernel_rfl, by kernel_rfl⟩
theorem ok_impl_entryPlace : Go.Proofs.Try.prog.funcs[26]? = some Go.Proofs.Try.f26 ∧ fnOk ids Go.Proofs.Try.prog Go.Proofs.Try.f26 c_impl_entryPlace = true := ⟨by kernel_rfl, by kernel_rfl⟩
theorem ok_impl_copyEntries : Go.Proofs.Try.prog.funcs[27]? = some Go.Proofs.Try.f27 ∧ fnOk ids Go.Proofs.Try.prog Go.Proofs.Try.f27 c_impl_copyEntries = true := ⟨by kernel_rfl, by kernel_rfl⟩
theorem ok_impl_catalogueResult : Go.Proofs.Try.prog.funcs[28]? = some Go.Proofs.Try.f28 ∧ fnOk ids Go.Proofs.Try.prog Go.Proofs.Try.f28 c_impl_catalogueResult = true := ⟨by kernel_rfl, by kernel_rfl⟩
theorem ok_laws_eqEntry : Go.Proofs.Try.prog.funcs[29]? = some Go.Proofs.Try.f29 ∧ fnOk ids Go.Proofs.Try.prog Go.Proofs.Try.f29 c_laws_eqEntry = true := ⟨by kernel_rfl, by kernel_rfl⟩
theorem ok_laws_intactEntry : Go.Proofs.Try.prog.funcs[30]? = some Go.Proofs.Try.f30 ∧ fnOk ids Go.Proofs.Try.prog Go.Proofs.Try.f30 c_laws_intactEntry = true := ⟨by kernel_rfl, by kernel_rfl⟩
theorem ok_laws_markText : Go.Proofs.Try.prog.funcs[31]? = some Go.Proofs.Try.f31 ∧ fnOk ids Go.Proofs.Try.prog Go.Proofs.Try.f31 c_laws_markText = true := ⟨by kernel_rfl, by kernel_rfl⟩
theorem ok_laws_markTermSS : Go.Proofs.Try.prog.funcs[32]? = some Go.Proofs.Try.f32 ∧ fnOk ids Go.Proofs.Try.prog Go.Proofs.Try.f32 c_laws_markTermSS = true := ⟨by kernel_rfl, by kernel_rfl⟩
theorem ok_laws_markIntS : Go.Proofs.Try.prog.funcs[33]? = some Go.Proofs.Try.f33 ∧ fnOk ids Go.Proofs.Try.prog Go.Proofs.Try.f33 c_laws_markIntS = true := ⟨by kernel_rfl, by kernel_rfl⟩
theorem ok_laws_heldTermSS : Go.Proofs.Try.prog.funcs[34]? = some Go.Proofs.Try.f34 ∧ fnOk ids Go.Proofs.Try.prog Go.Proofs.Try.f34 c_laws_heldTermSS = true := ⟨by kernel_rfl, by kernel_rfl⟩
theorem ok_laws_heldIntS : Go.Proofs.Try.prog.funcs[35]? = some Go.Proofs.Try.f35 ∧ fnOk ids Go.Proofs.Try.prog Go.Proofs.Try.f35 c_laws_heldIntS = true := ⟨by kernel_rfl, by kernel_rfl⟩
theorem ok_laws_szTermSS : Go.Proofs.Try.prog.funcs[36]? = some Go.Proofs.Try.f36 ∧ fnOk ids Go.Proofs.Try.prog Go.Proofs.Try.f36 c_laws_szTermSS = true := ⟨by kernel_rfl, by kernel_rfl⟩
theorem ok_laws_szBox : Go.Proofs.Try.prog.funcs[37]? = some Go.Proofs.Try.f37 ∧ fnOk ids Go.Proofs.Try.prog Go.Proofs.Try.f37 c_laws_szBox = true := ⟨by kernel_rfl, by kernel_rfl⟩
theorem ok_spec_caName : Go.Proofs.Try.prog.funcs[38]? = some Go.Proofs.Try.f38 ∧ fnOk ids Go.Proofs.Try.prog Go.Proofs.Try.f38 c_spec_caName = true := ⟨by kernel_rfl, by kernel_rfl⟩
theorem ok_spec_vaBoth : Go.Proofs.Try.prog.funcs[39]? = some Go.Proofs.Try.f39 ∧ fnOk ids Go.Proofs.Try.prog Go.Proofs.Try.f39 c_spec_vaBoth = true := ⟨by kernel_rfl, by kernel_rfl⟩
theorem ok_spec_caOwnAll : Go.Proofs.Try.prog.funcs[40]? = some Go.Proofs.Try.f40 ∧ fnOk ids Go.Proofs.Try.prog Go.Proofs.Try.f40 c_spec_caOwnAll = true := ⟨by kernel_rfl, by kernel_rfl⟩
theorem ok_spec_caOwn : Go.Proofs.Try.prog.funcs[41]? = some Go.Proofs.Try.f41 ∧ fnOk ids Go.Proofs.Try.prog Go.Proofs.Try.f41 c_spec_caOwn = true := ⟨by kernel_rfl, by kernel_rfl⟩
theorem ok_laws_toTermSS : Go.Proofs.Try.prog.funcs[42]? = some Go.Proofs.Try.f42 ∧ fnOk ids Go.Proofs.Try.prog Go.Proofs.Try.f42 c_laws_toTermSS = true := ⟨by kernel_rfl, by kernel_rfl⟩
theorem ok_laws_toBox : Go.Proofs.Try.prog.funcs[43]? = some Go.Proofs.Try.f43 ∧ fnOk ids Go.Proofs.Try.prog Go.Proofs.Try.f43 c_laws_toBox = true := ⟨by kernel_rfl, by kernel_rfl⟩
theorem ok_laws_fillerTerm : Go.Proofs.Try.prog.funcs[44]? = some Go.Proofs.Try.f44 ∧ fnOk ids Go.Proofs.Try.prog Go.Proofs.Try.f44 c_laws_fillerTerm = true := ⟨by kernel_rfl, by kernel_rfl⟩
theorem ok_laws_fillerBox : Go.Proofs.Try.prog.funcs[45]? = some Go.Proofs.Try.f45 ∧ fnOk ids Go.Proofs.Try.prog Go.Proofs.Try.f45 c_laws_fillerBox = true := ⟨by kernel_rfl, by kernel_rfl⟩
theorem ok_impl_isEntry : Go.Proofs.Try.prog.funcs[46]? = some Go.Proofs.Try.f46 ∧ fnOk ids Go.Proofs.Try.prog Go.Proofs.Try.f46 c_impl_isEntry = true := ⟨by kernel_rfl, by kernel_rfl⟩
theorem ok_slices_BinarySearchFunc_SimplEntryimplEntrystring : Go.Proofs.Try.prog.funcs[47]? = some Go.Proofs.Try.f47 ∧ fnOk ids Go.Proofs.Try.prog Go.Proofs.Try.f47 c_slices_BinarySearchFunc_SimplEntryimplEntrystring = true := ⟨by kernel_rfl, by kernel_rfl⟩
theorem ok_impl_entryPlace_in1 : Go.Proofs.Try.prog.funcs[48]? = some Go.Proofs.Try.f48 ∧ fnOk ids Go.Proofs.Try.prog Go.Proofs.Try.f48 c_impl_entryPlace_in1 = true := ⟨by kernel_rfl, by kernel_rfl⟩
theorem ok_impl_copyEntry : Go.Proofs.Try.prog.funcs[50]? = some Go.Proofs.Try.f50 ∧ fnOk ids Go.Proofs.Try.prog Go.Proofs.Try.f50 c_impl_copyEntry = true := ⟨by kernel_rfl, by kernel_rfl⟩
theorem ok_laws_eqTermSS : Go.Proofs.Try.prog.funcs[51]? = some Go.Proofs.Try.f51 ∧ fnOk ids Go.Proofs.Try.prog Go.Proofs.Try.f51 c_laws_eqTermSS = true := ⟨by kernel_rfl, by kernel_rfl⟩
theorem ok_laws_eqBox : Go.Proofs.Try.prog.funcs[52]? = some Go.Proofs.Try.f52 ∧ fnOk ids Go.Proofs.Try.prog Go.Proofs.Try.f52 c_laws_eqBox = true := ⟨by kernel_rfl, by kernel_rfl⟩
theorem ok_laws_intactTermSS : Go.Proofs.Try.prog.funcs[53]? = some Go.Proofs.Try.f53 ∧ fnOk ids Go.Proofs.Try.prog Go.Proofs.Try.f53 c_laws_intactTermSS = true := ⟨by kernel_rfl, by kernel_rfl⟩
theorem ok_laws_intactBox : Go.Proofs.Try.prog.funcs[54]? = some Go.Proofs.Try.f54 ∧ fnOk ids Go.Proofs.Try.prog Go.Proofs.Try.f54 c_laws_intactBox = true := ⟨by kernel_rfl, by kernel_rfl⟩
theorem ok_laws_markTermS : Go.Proofs.Try.prog.funcs[55]? = some Go.Proofs.Try.f55 ∧ fnOk ids Go.Proofs.Try.prog Go.Proofs.Try.f55 c_laws_markTermS = true := ⟨by kernel_rfl, by kernel_rfl⟩
theorem ok_laws_heldTermS : Go.Proofs.Try.prog.funcs[56]? = some Go.Proofs.Try.f56 ∧ fnOk ids Go.Proofs.Try.prog Go.Proofs.Try.f56 c_laws_heldTermS = true := ⟨by kernel_rfl, by kernel_rfl⟩
theorem ok_laws_szTermS : Go.Proofs.Try.prog.funcs[57]? = some Go.Proofs.Try.f57 ∧ fnOk ids Go.Proofs.Try.prog Go.Proofs.Try.f57 c_laws_szTermS = true := ⟨by kernel_rfl, by kernel_rfl⟩
theorem ok_laws_szIntS : Go.Proofs.Try.prog.funcs[58]? = some Go.Proofs.Try.f58 ∧ fnOk ids Go.Proofs.Try.prog Go.Proofs.Try.f58 c_laws_szIntS = true := ⟨by kernel_rfl, by kernel_rfl⟩
theorem ok_spec_poSystem : Go.Proofs.Try.prog.funcs[59]? = some Go.Proofs.Try.f59 ∧ fnOk ids Go.Proofs.Try.prog Go.Proofs.Try.f59 c_spec_poSystem = true := ⟨by kernel_rfl, by kernel_rfl⟩
theorem ok_spec_bxGood : Go.Proofs.Try.prog.funcs[60]? = some Go.Proofs.Try.f60 ∧ fnOk ids Go.Proofs.Try.prog Go.Proofs.Try.f60 c_spec_bxGood = true := ⟨by kernel_rfl, by kernel_rfl⟩
theorem ok_spec_caSystem : Go.Proofs.Try.prog.funcs[61]? = some Go.Proofs.Try.f61 ∧ fnOk ids Go.Proofs.Try.prog Go.Proofs.Try.f61 c_spec_caSystem = true := ⟨by kernel_rfl, by kernel_rfl⟩
theorem ok_spec_l1Own : Go.Proofs.Try.prog.funcs[62]? = some Go.Proofs.Try.f62 ∧ fnOk ids Go.Proofs.Try.prog Go.Proofs.Try.f62 c_spec_l1Own = true := ⟨by kernel_rfl, by kernel_rfl⟩
theorem ok_laws_toTermS : Go.Proofs.Try.prog.funcs[63]? = some Go.Proofs.Try.f63 ∧ fnOk ids Go.Proofs.Try.prog Go.Proofs.Try.f63 c_laws_toTermS = true := ⟨by kernel_rfl, by kernel_rfl⟩
theorem ok_laws_toIntS : Go.Proofs.Try.prog.funcs[64]? = some Go.Proofs.Try.f64 ∧ fnOk ids Go.Proofs.Try.prog Go.Proofs.Try.f64 c_laws_toIntS = true := ⟨by kernel_rfl, by kernel_rfl⟩
theorem ok_impl_systemOver : Go.Proofs.Try.prog.funcs[65]? = some Go.Proofs.Try.f65 ∧ fnOk ids Go.Proofs.Try.prog Go.Proofs.Try.f65 c_impl_systemOver = true := ⟨by kernel_rfl, by kernel_rfl⟩
theorem ok_strings_Compare : Go.Proofs.Try.prog.funcs[49]? = some Go.Proofs.Try.f49 ∧ fnOk ids Go.Proofs.Try.prog Go.Proofs.Try.f49 c_strings_Compare = true := ⟨by kernel_rfl, by kernel_rfl⟩
theorem ok_impl_copySystem : Go.Proofs.Try.prog.funcs[67]? = some Go.Proofs.Try.f67 ∧ fnOk ids Go.Proofs.Try.prog Go.Proofs.Try.f67 c_impl_copySystem = true := ⟨by kernel_rfl, by kernel_rfl⟩
theorem ok_impl_copyBoxes : Go.Proofs.Try.prog.funcs[68]? = some Go.Proofs.Try.f68 ∧ fnOk ids Go.Proofs.Try.prog Go.Proofs.Try.f68 c_impl_copyBoxes = true := ⟨by kernel_rfl, by kernel_rfl⟩
theorem ok_laws_eqTermS : Go.Proofs.Try.prog.funcs[69]? = some Go.Proofs.Try.f69 ∧ fnOk ids Go.Proofs.Try.prog Go.Proofs.Try.f69 c_laws_eqTermS = true := ⟨by kernel_rfl, by kernel_rfl⟩
theorem ok_laws_eqIntS : Go.Proofs.Try.prog.funcs[70]? = some Go.Proofs.Try.f70 ∧ fnOk ids Go.Proofs.Try.prog Go.Proofs.Try.f70 c_laws_eqIntS = true := ⟨by kernel_rfl, by kernel_rfl⟩
theorem ok_laws_intactTermS : Go.Proofs.Try.prog.funcs[71]? = some Go.Proofs.Try.f71 ∧ fnOk ids Go.Proofs.Try.prog Go.Proofs.Try.f71 c_laws_intactTermS = true := ⟨by kernel_rfl, by kernel_rfl⟩
theorem ok_laws_intactIntS : Go.Proofs.Try.prog.funcs[72]? = some Go.Proofs.Try.f72 ∧ fnOk ids Go.Proofs.Try.prog Go.Proofs.Try.f72 c_laws_intactIntS = true := ⟨by kernel_rfl, by kernel_rfl⟩
theorem ok_spec_poGood : Go.Proofs.Try.prog.funcs[73]? = some Go.Proofs.Try.f73 ∧ fnOk ids Go.Proofs.Try.prog Go.Proofs.Try.f73 c_spec_poGood = true := ⟨by kernel_rfl, by kernel_rfl⟩
theorem ok_spec_poDegreeIn : Go.Proofs.Try.prog.funcs[74]? = some Go.Proofs.Try.f74 ∧ fnOk ids Go.Proofs.Try.prog Go.Proofs.Try.f74 c_spec_poDegreeIn = true := ⟨by kernel_rfl, by kernel_rfl⟩
theorem ok_spec_dyPower : Go.Proofs.Try.prog.funcs[75]? = some Go.Proofs.Try.f75 ∧ fnOk ids Go.Proofs.Try.prog Go.Proofs.Try.f75 c_spec_dyPower = true := ⟨by kernel_rfl, by kernel_rfl⟩
theorem ok_laws_toTerm : Go.Proofs.Try.prog.funcs[76]? = some Go.Proofs.Try.f76 ∧ fnOk ids Go.Proofs.Try.prog Go.Proofs.Try.f76 c_laws_toTerm = true := ⟨by kernel_rfl, by kernel_rfl⟩
theorem ok_impl_isSystem : Go.Proofs.Try.prog.funcs[77]? = some Go.Proofs.Try.f77 ∧ fnOk ids Go.Proofs.Try.prog Go.Proofs.Try.f77 c_impl_isSystem = true := ⟨by kernel_rfl, by kernel_rfl⟩
theorem ok_impl_isBox : Go.Proofs.Try.prog.funcs[78]? = some Go.Proofs.Try.f78 ∧ fnOk ids Go.Proofs.Try.prog Go.Proofs.Try.f78 c_impl_isBox = true := ⟨by kernel_rfl, by kernel_rfl⟩
theorem ok_bytealg_CompareString : Go.Proofs.Try.prog.funcs[66]? = some Go.Proofs.Try.f66 ∧ fnOk ids Go.Proofs.Try.prog Go.Proofs.Try.f66 c_bytealg_CompareString = true := ⟨by kernel_rfl, by kernel_rfl⟩
theorem ok_laws_eqTerm : Go.Proofs.Try.prog.funcs[82]? = some Go.Proofs.Try.f82 ∧ fnOk ids Go.Proofs.Try.prog Go.Proofs.Try.f82 c_laws_eqTerm = true := ⟨by kernel_rfl, by kernel_rfl⟩
theorem ok_spec_poTerm : Go.Proofs.Try.prog.funcs[83]? = some Go.Proofs.Try.f83 ∧ fnOk ids Go.Proofs.Try.prog Go.Proofs.Try.f83 c_spec_poTerm = true := ⟨by kernel_rfl, by kernel_rfl⟩
theorem ok_spec_poOrder : Go.Proofs.Try.prog.funcs[84]? = some Go.Proofs.Try.f84 ∧ fnOk ids Go.Proofs.Try.prog Go.Proofs.Try.f84 c_spec_poOrder = true := ⟨by kernel_rfl, by kernel_rfl⟩
theorem ok_spec_poPower : Go.Proofs.Try.prog.funcs[85]? = some Go.Proofs.Try.f85 ∧ fnOk ids Go.Proofs.Try.prog Go.Proofs.Try.f85 c_spec_poPower = true := ⟨by kernel_rfl, by kernel_rfl⟩
theorem ok_impl_isPoly : Go.Proofs.Try.prog.funcs[86]? = some Go.Proofs.Try.f86 ∧ fnOk ids Go.Proofs.Try.prog Go.Proofs.Try.f86 c_impl_isPoly = true := ⟨by kernel_rfl, by kernel_rfl⟩
theorem ok_impl_needsAtMost : Go.Proofs.Try.prog.funcs[87]? = some Go.Proofs.Try.f87 ∧ fnOk ids Go.Proofs.Try.prog Go.Proofs.Try.f87 c_impl_needsAtMost = true := ⟨by kernel_rfl, by kernel_rfl⟩
theorem ok_spec_l1Sign : Go.Proofs.Try.prog.funcs[88]? = some Go.Proofs.Try.f88 ∧ fnOk ids Go.Proofs.Try.prog Go.Proofs.Try.f88 c_spec_l1Sign = true := ⟨by kernel_rfl, by kernel_rfl⟩
theorem ok_impl_hasDegree : Go.Proofs.Try.prog.funcs[89]? = some Go.Proofs.Try.f89 ∧ fnOk ids Go.Proofs.Try.prog Go.Proofs.Try.f89 c_impl_hasDegree = true := ⟨by kernel_rfl, by kernel_rfl⟩
theorem ok_impl_compareTerms : Go.Proofs.Try.prog.funcs[90]? = some Go.Proofs.Try.f90 ∧ fnOk ids Go.Proofs.Try.prog Go.Proofs.Try.f90 c_impl_compareTerms = true := ⟨by kernel_rfl, by kernel_rfl⟩
theorem ok_impl_Term_exponents : Go.Proofs.Try.prog.funcs[91]? = some Go.Proofs.Try.f91 ∧ fnOk ids Go.Proofs.Try.prog Go.Proofs.Try.f91 c_impl_Term_exponents = true := ⟨by kernel_rfl, by kernel_rfl⟩
theorem ok_impl_Term_degree : Go.Proofs.Try.prog.funcs[92]? = some Go.Proofs.Try.f92 ∧ fnOk ids Go.Proofs.Try.prog Go.Proofs.Try.f92 c_impl_Term_degree = true := ⟨by kernel_rfl, by kernel_rfl⟩
theorem ok_cmp_Or_int : Go.Proofs.Try.prog.funcs[93]? = some Go.Proofs.Try.f93 ∧ fnOk ids Go.Proofs.Try.prog Go.Proofs.Try.f93 c_cmp_Or_int = true := ⟨by kernel_rfl, by kernel_rfl⟩
theorem ok_cmp_Compare_int : Go.Proofs.Try.prog.funcs[94]? = some Go.Proofs.Try.f94 ∧ fnOk ids Go.Proofs.Try.prog Go.Proofs.Try.f94 c_cmp_Compare_int = true := ⟨by kernel_rfl, by kernel_rfl⟩
theorem ok_cmp_isNaN_int : Go.Proofs.Try.prog.funcs[95]? = some Go.Proofs.Try.f95 ∧ fnOk ids Go.Proofs.Try.prog Go.Proofs.Try.f95 c_cmp_isNaN_int = true := ⟨by kernel_rfl, by kernel_rfl⟩
end Go.Proofs.Ytkiklfcfdopplaa.T
namespace Go.Proofs.Ytkiklfcfdopplaa.T
open Go
section
variable {P : Program} {w : World} {home : Home} {hd : Lb → Value} {rt : Rts}
theorem cmpB_eq : ∀ a b : List UInt8, Lib.compareBytes a b = if Op.bytesLess a b then -1 else if a == b then 0 else 1
  | [], [] => rfl
  | [], _ :: _ => rfl
  | _ :: _, [] => by simp [Lib.compareBytes, Op.bytesLess]
  | x :: a, y :: b => by
    have ih := cmpB_eq a b
    unfold Lib.compareBytes Op.bytesLess
    by_cases h : x < y
    · simp [h]
    · by_cases e : x = y
      · subst e
        simp only [h, if_false, ih, decide_false, Bool.false_or, beq_self_eq_true, Bool.true_and, List.cons_beq_cons]
      · have h2 : y < x := UInt8.lt_of_le_of_ne (UInt8.not_lt.1 h) (Ne.symm e)
        simp [h, h2, e]
theorem sat_cmp {f : FuncId} {fn : Func} (hf : P.funcs[f]? = some fn) (hname : (fn.name == "runtime.NumGoroutine") = false) (hb : fn.body.isNone = true) (hn : Extern.findNext fn = none) (he : Extern.find fn = some Extern.BytealgCompare.compare) (a b : ByteArray) :
    Sat ids P f [argV (.string a), argV (.string b)] (resI (cmpN a b)) := by
  intro w home hd vs hlen hrel hargs _
  match vs, hlen with
  | [u, v], _ =>
    have h1 := hargs 0 _ u rfl rfl
    have h2 := hargs 1 _ v rfl rfl
    have e1 : u = .string a := svR_val (w := w) (home := home) (hd := hd) (rt := (initFr [argV (.string a), argV (.string b)]).rt) h1
    have e2 : v = .string b := svR_val (w := w) (home := home) (hd := hd) (rt := (initFr [argV (.string a), argV (.string b)]).rt) h2
    subst e1 e2
    refine Or.inr ⟨.int .i64 (cmpN a b), w, ?_, home, hd, F0, [.int .i64 (cmpN a b)], rfl, ?_⟩
    · rw [run_callFunc_extern hf hname hb hn he, Lib.run_compareString, cmpB_eq]
      simp only [cmpN, lessN, Lib.toList_data, Result.andThen_ok]
    · refine ⟨hrel, ⟨[.int .i64 (cmpN a b)], rfl, fun j o c v hc hv => ?_, ⟨_, [], [], rfl, rfl, rfl, rfl⟩⟩, fun j r h => (by cases h), rfl, rfl, rfl, Nat.le_refl _, fun _ _ h => ⟨rfl, h⟩, fun _ _ _ h => ⟨rfl, h⟩, fun _ _ _ _ _ => rfl⟩
      match j with
      | 0 =>
        simp only [resI, cellsOf, List.getElem?_cons_zero, Option.some.injEq, RC.mk.injEq] at hc hv
        obtain ⟨rfl, rfl⟩ := hc
        subst hv
        exact ⟨Or.inl ⟨rfl, CR.val rfl⟩, fun h => absurd rfl h⟩
      | j + 1 => simp [resI, cellsOf] at hc
def pc0 (sz : Nat) : PC := .ops [o 2 (.mkn (.fl sz))] [0]
def pc2 (sz : Nat) : PC := .seq (.ops [o 2 (.mkn (.fl sz))] [2]) .ret
def pc3 (sz bytes : Nat) : PC := .seq (.ops [o 5 (.bs (.fl sz) []), o 6 (.mv (.t 0)), o 7 (.app (.fl sz) bytes (.t 5) (.t 6)), o 2 (.mv (.t 7))] [2]) .ret
def noCall : Call := fun _ _ => none
def fr1 (c : C) : Fr := ⟨asl [(0, .v (.s (.c c)))], asl [], []⟩
def fr2 (c : C) : Fr := ⟨upd (fr1 c).sl 3 (.v (.s (.c c))), asl [], []⟩
def fr3 (c : C) (b : Bool) : Fr := ⟨upd (fr2 c).sl 4 (.sv (.v (.bool b))), asl [], []⟩
def pfC : PFunc := ⟨1, 8, .skip, [.t 2]⟩
theorem run0 (sz : Nat) (c : C) : runC noCall 0 (pc0 sz) (initFr [.imm (.s (.c c))]) = some (.normal, fr1 c) := by
  simp [pc0, runC, Fr.steps, fr1]
theorem run1 (c : C) : (fr1 c).step noCall (o 3 (.mv (.t 0))) = some (fr2 c) := by
  simp [fr1, fr2]
theorem of_runK {pc : PC} {fr : Fr} {r : Res} (h : runK noCall 0 pc (kRes [.t 2]) fr = some r) : ∃ e fr', runC noCall 0 pc fr = some (e, fr') ∧ (e = .normal ∨ e = .ret) ∧ finish pfC fr' = some r := by
  rw [runK_eq] at h
  cases hc : runC noCall 0 pc fr with
  | none => rw [hc] at h; cases h
  | some x =>
    obtain ⟨e, fr'⟩ := x
    rw [hc] at h
    refine ⟨e, fr', rfl, ?_⟩
    cases e with
    | normal => exact ⟨Or.inl rfl, h⟩
    | ret => exact ⟨Or.inr rfl, h⟩
    | exit i => cases h
theorem run2 (sz : Nat) (c : C) (b : Bool) : runK noCall 0 (pc2 sz) (kRes [.t 2]) (fr3 c b) = some ⟨[.s (.mk .deep (.fl sz [] []))], []⟩ := by
  simp [pc2, fr3, fr2, fr1]
theorem run3 (sz bytes : Nat) (es sp : List (List Value)) (b : Bool) (h : es.length * bytes ≤ 140737488355328) (h2 : es.length ≤ 9223372036854775807) :
    runK noCall 0 (pc3 sz bytes) (kRes [.t 2]) (fr3 (.fl sz es sp) b) = some ⟨[.s (.mk .deep (.fl sz es []))], []⟩ := by
  simp [pc3, fr3, fr2, fr1, h, h2]
theorem ops_ret {l : List POp} {k : List Nat} {fr fr' : Fr} {e : Ex} (h : runC noCall 0 (.seq (.ops l k) .ret) fr = some (e, fr')) : e = .ret := by
  simp only [runC] at h
  cases hs : fr.steps noCall l with
  | none => rw [hs] at h; cases h
  | some x => rw [hs] at h; simp at h; exact h.1.symm
theorem sat_clone {f : FuncId} {fn : Func} {code0 code2 code3 : Code} {oA oB : Oper} {i t t2 sz bytes : Nat} (hf : P.funcs[f]? = some fn) (hname : (fn.name == "runtime.NumGoroutine") = false)
    (hb : fn.body = some (.seq code0 (.seq (.seq (.region i #[oA, oB] false) (.cond (.tmp 4) code2 .skip)) code3))) (hN : fn.ntmps = 8)
    (a1 : oA.dst = some 3) (a2 : oA.guard = none) (a3 : oA.op = .move (.tmp 0)) (b1 : oB.dst = some 4) (b2 : oB.guard = none) (b3 : oB.op = .binOp .eql t (.tmp 3) (.const (.slice none 0 0)) t2)
    (ht : ∃ e, P.underlying t = some (.slice e)) (m0 : mC ids P 8 code0 (pc0 sz) = true) (m2 : mC ids P 8 code2 (pc2 sz) = true) (m3 : mC ids P 8 code3 (pc3 sz bytes) = true) (mr : all2 (mRes P) fn.results.toList [.t 2] = true)
    (hbytes : bytes ≤ 64) (hsz : 0 < sz) (es sp : List (List Value)) (hes : es.length ≤ 1000000) :
    Sat ids P f [.imm (.s (.c (.fl sz es sp)))] ⟨[.s (.mk .deep (.fl sz es []))], []⟩ := by
  intro w home hd vs hlen hrel hargs _
  match vs, hlen with
  | [v], _ =>
    obtain ⟨c, hc⟩ : ∃ c, c = C.fl sz es sp := ⟨_, rfl⟩
    rw [← hc] at hrel hargs ⊢
    have hcall : ∀ f args r, noCall f args = some r → Sat ids P (ids f) args r := fun f args r h => by cases h
    refine Or.inl ⟨?_, ?_⟩
    · unfold callFunc
      simp only [Sem.run_bind, run_program, Result.andThen_ok, hf, hname, hb, Option.isNone_some, Bool.false_eq_true, if_false, Sem.run_pure]
    · have h0 : CR w home .imm c v := hargs 0 _ v rfl rfl
      have hfr : FrR ids w home hd 8 (initFr [.imm (.s (.c c))]) { tmps := #[v] ++ Array.replicate (8 - 1) undef, defers := [] } := by
        refine ⟨hrel, fun t av ht => ?_, by simp, rfl⟩
        have e : (initFr [.imm (.s (.c c))]).sl t = if t = 0 then some (.v (.s (.c c))) else none := by simp
        rw [e] at ht
        split at ht
        · rename_i e0
          subst e0
          injection ht with ht
          subst ht
          exact ⟨v, rfl, h0, fun i hi => by cases hi⟩
        · cases ht
      refine calls_of_wp hf hb ?_
      rw [hN]
      have fin : ∀ {pc : PC} {code : Code} {fr : Fr} {a : Act} {w1 : World} {home1 : Home} {hd1 : Lb → Value}, mC ids P 8 code pc = true → fr.ps = [] → Grow w home hd (initFr [.imm (.s (.c c))]).rt w1 home1 hd1 fr.rt → FrR ids w1 home1 hd1 8 fr a → runK noCall 0 pc (kRes [.t 2]) fr = some ⟨[.s (.mk .deep (.fl sz es []))], []⟩ →
          ∀ Q : Exit → Act → World → Prop, (∀ (e : Ex) fr' a' w', runC noCall 0 pc fr = some (e, fr') → bodyPost P fn (fun e w' => ∃ v, e = .returned v ∧ ∃ home' hd' F' us, v = retV us ∧ Ret w home hd (initFr [.imm (.s (.c c))]).ps w' home' hd' F' ⟨[.s (.mk .deep (.fl sz es []))], []⟩ us) (exOf e) a' w' → Q (exOf e) a' w') → code.wp P Q a w1 := by
        intro pc code fr a w1 home1 hd1 hm hps hg hfr hrun Q hQ
        obtain ⟨e, fr', hc', he, hfin⟩ := of_runK hrun
        refine runC_ok hcall pc hm hc' hfr (fun a' w' home' hd' g hf' => ?_)
        obtain ⟨us, hr, home2, hd2, F', hret⟩ := finish_ok (P := P) (hg.trans g) hf' (pf := pfC) mr hfin
        rw [runC_ps _ hc', hps] at hret
        rcases he with rfl | rfl
        · exact hQ .normal fr' _ _ hc' ⟨hf'.nd, _, hr, _, rfl, home2, hd2, F', us, rfl, hret⟩
        · exact hQ .ret fr' _ _ hc' ⟨hf'.nd, _, hr, _, rfl, home2, hd2, F', us, rfl, hret⟩
      refine wp_seq (runC_ok hcall (pc0 sz) m0 (run0 sz c) hfr (fun a1' w1 home1 hd1 g1 hf1 => ?_))
      refine wp_seq (wp_seq (wp_region ?_))
      have hr2 : List.range #[oA, oB].size = [0, 1] := rfl
      rw [hr2]
      have hA : mOp ids P 8 #[oA, oB] oA (o 3 (.mv (.t 0))) = true := by
        simp [mOp, mDst, mG, mAny, mPO, mMv, mOpd, a1, a2, a3]
      refine step_ok hcall hf1 hA (run1 c) (fun a2' w2 home2 hd2 g2 hf2 => ?_)
      have hw : Region.wanted oB (yielded #[oA, oB] a2'.tmps) = true := by unfold Region.wanted; rw [b2]
      show if Region.wanted oB (yielded #[oA, oB] a2'.tmps) then _ else _
      rw [hw, if_pos rfl]
      have h3 : CR w2 home2 .imm c (a2'.eval (.tmp 3)) := (hf2.tmp (t := 3) (av := .v (.s (.c c))) (by simp [fr2])).1
      rw [hc] at h3
      cases h3 with
      | fl he hh =>
        obtain ⟨_, hle, ad, cap, hu, hcap, _, hcells⟩ := hh
        obtain ⟨e, hte⟩ := ht
        have hok : OpOk ids P oB a2' w2 home2 hd2 (fr2 c).rt (.sv (.v (.bool ad.isNone))) (fr2 c).rt := by
          refine .value (v := .bool ad.isNone) (w' := w2) ?_ (Step.refl hf2.rel) (avr_v rfl)
          unfold execOp
          rw [b3]
          have hk : a2'.eval (.const (.slice none 0 0)) = .slice none 0 0 := rfl
          simp only [hk, hu, Sem.run_bind, run_eqGuard (u := .slice ad es.length cap) (by simp) (by simp), Result.andThen_ok, binOp, run_equal_slice_nil w2 t e ad es.length cap hte, Sem.run_pure]
        refine Or.inl (hok _ _ (fun v4 w3 home3 hd3 s3 hv4 => ?_))
        have hf3 : FrR ids w3 home3 hd3 8 (fr3 c ad.isNone) (a2'.put oB.dst v4) := by
          have := hf2.put s3 (d := some 4) (fun t e => by injection e with e; subst e; decide) hv4 (fun i hi => by cases hi)
          rw [b1]
          exact this
        have hg3 : Grow w home hd (initFr [.imm (.s (.c c))]).rt w3 home3 hd3 (fr3 c ad.isNone).rt := (g1.trans g2).trans s3.grow
        have ht4 : (a2'.put oB.dst v4).eval (.tmp 4) = .bool ad.isNone := by
          have := (hf3.tmp (t := 4) (av := .sv (.v (.bool ad.isNone))) (by simp [fr3])).1
          exact svR_val (w := w3) (home := home3) (hd := hd3) (rt := (fr3 c ad.isNone).rt) this
        refine wp_cond ht4 ?_
        cases hb0 : ad.isNone with
        | true =>
          have hes0 : es = [] := by
            have hnil : ad = none := by cases ad <;> first | rfl | cases hb0
            subst hnil
            cases es with
            | nil => rfl
            | cons x es =>
              obtain ⟨b, o, h, _⟩ := hcells 0 0 (by simp only [List.length_cons]; omega) hsz
              cases h
          rw [if_pos rfl]
          rw [hb0] at hf3 hg3
          refine fin m2 rfl hg3 hf3 (by rw [hes0]; exact run2 sz c true) _ (fun e fr' a' w' he hp => ?_)
          obtain rfl := ops_ret he
          exact hp
        | false =>
          rw [if_neg (by simp)]
          refine wp_skip ?_
          rw [hb0] at hf3 hg3
          refine fin m3 rfl hg3 hf3 (by rw [hc]; exact run3 sz bytes es sp false (Nat.le_trans (Nat.mul_le_mul hes hbytes) (by decide)) (by omega)) _ (fun e fr' a' w' he hp => ?_)
          obtain rfl := ops_ret he
          exact hp
end
end Go.Proofs.Ytkiklfcfdopplaa.T
namespace Go.Proofs.Ytkiklfcfdopplaa.T
open Go
def goodL (l : List (Nat × PFunc)) : Prop := ∀ i pf, l.lookup i = some pf → ∃ fn, Go.Proofs.Try.prog.funcs[ids i]? = some fn ∧ fnOk ids Go.Proofs.Try.prog fn pf = true
theorem good_nil : goodL [] := fun i pf h => by cases h
theorem good_cons {j k : Nat} {fn : Func} {qf : PFunc} {l : List (Nat × PFunc)} (hj : ids j = k) (h : Go.Proofs.Try.prog.funcs[k]? = some fn ∧ fnOk ids Go.Proofs.Try.prog fn qf = true) (hl : goodL l) : goodL ((j, qf) :: l) := by
  intro i pf hi
  rw [List.lookup_cons] at hi
  split at hi
  · rename_i e
    have e := eq_of_beq e
    subst e
    injection hi with hi
    subst hi
    rw [hj]
    exact ⟨fn, h⟩
  · exact hl i pf hi
theorem tab_ok (i : Nat) (pf : PFunc) (h : tab i = some pf) : ∃ fn, Go.Proofs.Try.prog.funcs[ids i]? = some fn ∧ fnOk ids Go.Proofs.Try.prog fn pf = true := by
  unfold tab at h
  revert h
  revert pf
  revert i
  refine good_cons (by kernel_rfl) ok_laws_FnExactTightenZeros ?_
  refine good_cons (by kernel_rfl) ok_laws_szEntryS ?_
  refine good_cons (by kernel_rfl) ok_spec_TightenZeros ?_
  refine good_cons (by kernel_rfl) ok_laws_toEntryS ?_
  refine good_cons (by kernel_rfl) ok_impl_TightenZeros ?_
  refine good_cons (by kernel_rfl) ok_laws_eqEntryS ?_
  refine good_cons (by kernel_rfl) ok_laws_intactEntryS ?_
  refine good_cons (by kernel_rfl) ok_laws_markEntryS ?_
  refine good_cons (by kernel_rfl) ok_laws_heldEntryS ?_
  refine good_cons (by kernel_rfl) ok_laws_szEntry ?_
  refine good_cons (by kernel_rfl) ok_spec_caPlace ?_
  refine good_cons (by kernel_rfl) ok_spec_caGood ?_
  refine good_cons (by kernel_rfl) ok_spec_caAt ?_
  refine good_cons (by kernel_rfl) ok_spec_l1In ?_
  refine good_cons (by kernel_rfl) ok_spec_l1Most ?_
  refine good_cons (by kernel_rfl) ok_spec_l1Least ?_
  refine good_cons (by kernel_rfl) ok_spec_caEntry ?_
  refine good_cons (by kernel_rfl) ok_spec_caPut ?_
  refine good_cons (by kernel_rfl) ok_laws_roomBehind ?_
  refine good_cons (by kernel_rfl) ok_laws_toEntry ?_
  refine good_cons (by kernel_rfl) ok_laws_fillerEntry ?_
  refine good_cons (by kernel_rfl) ok_impl_isCatalogue ?_
  refine good_cons (by kernel_rfl) ok_impl_inside ?_
  refine good_cons (by kernel_rfl) ok_impl_entryPlace ?_
  refine good_cons (by kernel_rfl) ok_impl_copyEntries ?_
  refine good_cons (by kernel_rfl) ok_impl_catalogueResult ?_
  refine good_cons (by kernel_rfl) ok_laws_eqEntry ?_
  refine good_cons (by kernel_rfl) ok_laws_intactEntry ?_
  refine good_cons (by kernel_rfl) ok_laws_markText ?_
  refine good_cons (by kernel_rfl) ok_laws_markTermSS ?_
  refine good_cons (by kernel_rfl) ok_laws_markIntS ?_
  refine good_cons (by kernel_rfl) ok_laws_heldTermSS ?_
  refine good_cons (by kernel_rfl) ok_laws_heldIntS ?_
  refine good_cons (by kernel_rfl) ok_laws_szTermSS ?_
  refine good_cons (by kernel_rfl) ok_laws_szBox ?_
  refine good_cons (by kernel_rfl) ok_spec_caName ?_
  refine good_cons (by kernel_rfl) ok_spec_vaBoth ?_
  refine good_cons (by kernel_rfl) ok_spec_caOwnAll ?_
  refine good_cons (by kernel_rfl) ok_spec_caOwn ?_
  refine good_cons (by kernel_rfl) ok_laws_toTermSS ?_
  refine good_cons (by kernel_rfl) ok_laws_toBox ?_
  refine good_cons (by kernel_rfl) ok_laws_fillerTerm ?_
  refine good_cons (by kernel_rfl) ok_laws_fillerBox ?_
  refine good_cons (by kernel_rfl) ok_impl_isEntry ?_
  refine good_cons (by kernel_rfl) ok_slices_BinarySearchFunc_SimplEntryimplEntrystring ?_
  refine good_cons (by kernel_rfl) ok_impl_entryPlace_in1 ?_
  refine good_cons (by kernel_rfl) ok_impl_copyEntry ?_
  refine good_cons (by kernel_rfl) ok_laws_eqTermSS ?_
  refine good_cons (by kernel_rfl) ok_laws_eqBox ?_
  refine good_cons (by kernel_rfl) ok_laws_intactTermSS ?_
  refine good_cons (by kernel_rfl) ok_laws_intactBox ?_
  refine good_cons (by kernel_rfl) ok_laws_markTermS ?_
  refine good_cons (by kernel_rfl) ok_laws_heldTermS ?_
  refine good_cons (by kernel_rfl) ok_laws_szTermS ?_
  refine good_cons (by kernel_rfl) ok_laws_szIntS ?_
  refine good_cons (by kernel_rfl) ok_spec_poSystem ?_
  refine good_cons (by kernel_rfl) ok_spec_bxGood ?_
  refine good_cons (by kernel_rfl) ok_spec_caSystem ?_
  refine good_cons (by kernel_rfl) ok_spec_l1Own ?_
  refine good_cons (by kernel_rfl) ok_laws_toTermS ?_
  refine good_cons (by kernel_rfl) ok_laws_toIntS ?_
  refine good_cons (by kernel_rfl) ok_impl_systemOver ?_
  refine good_cons (by kernel_rfl) ok_strings_Compare ?_
  refine good_cons (by kernel_rfl) ok_impl_copySystem ?_
  refine good_cons (by kernel_rfl) ok_impl_copyBoxes ?_
  refine good_cons (by kernel_rfl) ok_laws_eqTermS ?_
  refine good_cons (by kernel_rfl) ok_laws_eqIntS ?_
  refine good_cons (by kernel_rfl) ok_laws_intactTermS ?_
  refine good_cons (by kernel_rfl) ok_laws_intactIntS ?_
  refine good_cons (by kernel_rfl) ok_spec_poGood ?_
  refine good_cons (by kernel_rfl) ok_spec_poDegreeIn ?_
  refine good_cons (by kernel_rfl) ok_spec_dyPower ?_
  refine good_cons (by kernel_rfl) ok_laws_toTerm ?_
  refine good_cons (by kernel_rfl) ok_impl_isSystem ?_
  refine good_cons (by kernel_rfl) ok_impl_isBox ?_
  refine good_cons (by kernel_rfl) ok_bytealg_CompareString ?_
  refine good_cons (by kernel_rfl) ok_laws_eqTerm ?_
  refine good_cons (by kernel_rfl) ok_spec_poTerm ?_
  refine good_cons (by kernel_rfl) ok_spec_poOrder ?_
  refine good_cons (by kernel_rfl) ok_spec_poPower ?_
  refine good_cons (by kernel_rfl) ok_impl_isPoly ?_
  refine good_cons (by kernel_rfl) ok_impl_needsAtMost ?_
  refine good_cons (by kernel_rfl) ok_spec_l1Sign ?_
  refine good_cons (by kernel_rfl) ok_impl_hasDegree ?_
  refine good_cons (by kernel_rfl) ok_impl_compareTerms ?_
  refine good_cons (by kernel_rfl) ok_impl_Term_exponents ?_
  refine good_cons (by kernel_rfl) ok_impl_Term_degree ?_
  refine good_cons (by kernel_rfl) ok_cmp_Or_int ?_
  refine good_cons (by kernel_rfl) ok_cmp_Compare_int ?_
  refine good_cons (by kernel_rfl) ok_cmp_isNaN_int ?_
  exact good_nil
end Go.Proofs.Ytkiklfcfdopplaa.T
namespace Go.Proofs.Ytkiklfcfdopplaa.T
open Go
theorem sat_cloneP (es sp : List (List Value)) (h : es.length ≤ 1000000) : Sat ids Go.Proofs.Try.prog 80 [.imm (.s (.c (.fl 4 es sp)))] ⟨[.s (.mk .deep (.fl 4 es []))], []⟩ :=
  sat_clone (sz := 4) (bytes := 32) (fn := Go.Proofs.Try.f80) (by kernel_rfl) (by kernel_rfl) rfl rfl rfl rfl rfl rfl rfl rfl ⟨68, by kernel_rfl⟩ (by kernel_rfl) (by kernel_rfl) (by kernel_rfl) (by kernel_rfl) (by decide) (by decide) es sp h
theorem sat_cloneI (es sp : List (List Value)) (h : es.length ≤ 1000000) : Sat ids Go.Proofs.Try.prog 81 [.imm (.s (.c (.fl 1 es sp)))] ⟨[.s (.mk .deep (.fl 1 es []))], []⟩ :=
  sat_clone (sz := 1) (bytes := 8) (fn := Go.Proofs.Try.f81) (by kernel_rfl) (by kernel_rfl) rfl rfl rfl rfl rfl rfl rfl rfl ⟨3, by kernel_rfl⟩ (by kernel_rfl) (by kernel_rfl) (by kernel_rfl) (by kernel_rfl) (by decide) (by decide) es sp h
theorem sat_cmpS (a b : ByteArray) : Sat ids Go.Proofs.Try.prog 79 [argV (.string a), argV (.string b)] (resI (cmpN a b)) :=
  sat_cmp (fn := Go.Proofs.Try.f79) (by kernel_rfl) (by kernel_rfl) (by kernel_rfl) (by kernel_rfl) (by kernel_rfl) a b
theorem hand_ok (f : Nat) (args : List Arg) (r : Res) (h : handF f args = some r) : Sat ids Go.Proofs.Try.prog (ids f) args r := by
  unfold handF at h
  split at h
  · split at h
    · rename_i hc
      injection h with h
      subst h
      obtain ⟨hc, hn⟩ := hc
      rcases hc with ⟨rfl, rfl⟩ | ⟨rfl, rfl⟩
      · exact sat_cloneI _ _ hn
      · exact sat_cloneP _ _ hn
    · cases h
  · split at h
    · rename_i hc
      injection h with h
      subst h hc
      exact sat_cmpS _ _
    · cases h
  · cases h
theorem L_sat {f : Nat} {args : List Arg} {r : Res} (h : L0 f args = some r) : Sat ids Go.Proofs.Try.prog (ids f) args r := by
  obtain ⟨m, hm⟩ := L_den.1 h
  exact den_ok (pp := prog handF) (fun i pf h => tab_ok i pf h) (fun f args r _ h => hand_ok f args r h) m f args r (hm m (Nat.le_refl _))
theorem law_sat (a : Entries) (n : ByteArray) (least most : Int) (hn : n.size ≤ 140737488355328) (hlen : a.es.length ≤ 140737488355328) : Sat ids Go.Proofs.Try.prog 3 [arg (cE a), argV (.string n), argI least, argI most] (resB true) :=
  L_sat (f := n_laws_FnExactTightenZeros) (L_law a n least most hn hlen)
end Go.Proofs.Ytkiklfcfdopplaa.T
