import Derived.Test.YtegihfgibonhpaaPegD0
import Derived.Test.YtegihfgibonhpaaPegD1
import Derived.Test.YtegihfgibonhpaaPegD2
namespace Go.Proofs.Try.Dn
open Go.Dn

def tab : Tab := (.two 53 (.two 31 (.two 25 (.two 20 (.two 18 (.one 14 d14) (.one 18 d18)) (.two 22 (.one 20 d20) (.two 24 (.one 22 d22) (.one 24 d24)))) (.two 27 (.two 26 (.one 25 d25) (.one 26 d26)) (.two 28 (.one 27 d27) (.two 29 (.one 28 d28) (.one 29 d29))))) (.two 47 (.two 44 (.two 43 (.one 31 d31) (.one 43 d43)) (.two 45 (.one 44 d44) (.two 46 (.one 45 d45) (.one 46 d46)))) (.two 49 (.two 48 (.one 47 d47) (.one 48 d48)) (.two 50 (.one 49 d49) (.two 51 (.one 50 d50) (.one 51 d51)))))) (.two 69 (.two 58 (.two 55 (.two 54 (.one 53 d53) (.one 54 d54)) (.two 56 (.one 55 d55) (.two 57 (.one 56 d56) (.one 57 d57)))) (.two 62 (.two 59 (.one 58 d58) (.one 59 d59)) (.two 64 (.one 62 d62) (.two 65 (.one 64 d64) (.one 65 d65))))) (.two 74 (.two 71 (.two 70 (.one 69 d69) (.one 70 d70)) (.two 72 (.one 71 d71) (.two 73 (.one 72 d72) (.one 73 d73)))) (.two 77 (.two 75 (.one 74 d74) (.two 76 (.one 75 d75) (.one 76 d76))) (.two 83 (.one 77 d77) (.two 97 (.one 83 d83) (.one 97 d97)))))))

theorem tab_ok : tab.Ok Try.prog := ⟨⟨⟨⟨⟨ok14, ok18⟩, ⟨ok20, ⟨ok22, ok24⟩⟩⟩, ⟨⟨ok25, ok26⟩, ⟨ok27, ⟨ok28, ok29⟩⟩⟩⟩, ⟨⟨⟨ok31, ok43⟩, ⟨ok44, ⟨ok45, ok46⟩⟩⟩, ⟨⟨ok47, ok48⟩, ⟨ok49, ⟨ok50, ok51⟩⟩⟩⟩⟩, ⟨⟨⟨⟨ok53, ok54⟩, ⟨ok55, ⟨ok56, ok57⟩⟩⟩, ⟨⟨ok58, ok59⟩, ⟨ok62, ⟨ok64, ok65⟩⟩⟩⟩, ⟨⟨⟨ok69, ok70⟩, ⟨ok71, ⟨ok72, ok73⟩⟩⟩, ⟨⟨ok74, ⟨ok75, ok76⟩⟩, ⟨ok77, ⟨ok83, ok97⟩⟩⟩⟩⟩⟩

end Go.Proofs.Try.Dn

