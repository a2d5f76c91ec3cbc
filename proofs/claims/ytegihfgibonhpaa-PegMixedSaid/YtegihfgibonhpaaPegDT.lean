import Derived.Test.YtegihfgibonhpaaPegD0
import Derived.Test.YtegihfgibonhpaaPegD1
import Derived.Test.YtegihfgibonhpaaPegD2
namespace Go.Proofs.Try.Dn
open Go.Dn

def tab : Tab := (.two 53 (.two 31 (.two 23 (.two 20 (.two 18 (.one 15 d15) (.one 18 d18)) (.two 22 (.one 20 d20) (.one 22 d22))) (.two 25 (.two 24 (.one 23 d23) (.one 24 d24)) (.two 27 (.one 25 d25) (.two 28 (.one 27 d27) (.one 28 d28))))) (.two 47 (.two 43 (.two 40 (.one 31 d31) (.one 40 d40)) (.two 45 (.one 43 d43) (.two 46 (.one 45 d45) (.one 46 d46)))) (.two 49 (.two 48 (.one 47 d47) (.one 48 d48)) (.two 50 (.one 49 d49) (.two 51 (.one 50 d50) (.one 51 d51)))))) (.two 70 (.two 59 (.two 55 (.two 54 (.one 53 d53) (.one 54 d54)) (.two 56 (.one 55 d55) (.two 58 (.one 56 d56) (.one 58 d58)))) (.two 64 (.two 62 (.one 59 d59) (.one 62 d62)) (.two 65 (.one 64 d64) (.two 69 (.one 65 d65) (.one 69 d69))))) (.two 75 (.two 72 (.two 71 (.one 70 d70) (.one 71 d71)) (.two 73 (.one 72 d72) (.two 74 (.one 73 d73) (.one 74 d74)))) (.two 77 (.two 76 (.one 75 d75) (.one 76 d76)) (.two 83 (.one 77 d77) (.two 97 (.one 83 d83) (.one 97 d97)))))))

theorem tab_ok : tab.Ok Try.prog := ⟨⟨⟨⟨⟨ok15, ok18⟩, ⟨ok20, ok22⟩⟩, ⟨⟨ok23, ok24⟩, ⟨ok25, ⟨ok27, ok28⟩⟩⟩⟩, ⟨⟨⟨ok31, ok40⟩, ⟨ok43, ⟨ok45, ok46⟩⟩⟩, ⟨⟨ok47, ok48⟩, ⟨ok49, ⟨ok50, ok51⟩⟩⟩⟩⟩, ⟨⟨⟨⟨ok53, ok54⟩, ⟨ok55, ⟨ok56, ok58⟩⟩⟩, ⟨⟨ok59, ok62⟩, ⟨ok64, ⟨ok65, ok69⟩⟩⟩⟩, ⟨⟨⟨ok70, ok71⟩, ⟨ok72, ⟨ok73, ok74⟩⟩⟩, ⟨⟨ok75, ok76⟩, ⟨ok77, ⟨ok83, ok97⟩⟩⟩⟩⟩⟩

end Go.Proofs.Try.Dn

